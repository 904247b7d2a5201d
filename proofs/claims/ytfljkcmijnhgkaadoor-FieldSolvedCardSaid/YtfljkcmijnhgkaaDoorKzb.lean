/- Products of square matrices: put together in any way; powers; what a square matrix answers. -/
import Derived.Test.YtfljkcmijnhgkaaDoorKza
import Derived.Test.YtfljkcmijnhgkaaDoorKb
namespace Go.Proofs.YtfljkcmijnhgkaaDoor

theorem checkM_of {rs : List (List Int)} {n m : Nat} (h : okM rs n m) (h1 : 1 ≤ n) (h2 : n ≤ 12) (h3 : 1 ≤ m) (h4 : m ≤ 12) : checkM rs = 0 := by
  have hl := h.len0 (by omega)
  rw [checkM_pass (by rw [h.1, hl]; omega), hl]
  rw [if_neg (by
    rw [Bool.not_eq_true, List.any_eq_false]
    intro r hr
    rw [(h.2 r hr).1]; simp), if_neg (by
    rw [Bool.not_eq_true, List.any_eq_false]
    intro r hr
    simp only [Bool.not_eq_true, Bool.not_eq_false', isRes, List.all_eq_true]
    intro x hx
    have := (h.2 r hr).2 x hx
    simp [isN]; omega)]
theorem squareM_of {rs : List (List Int)} {n : Nat} (h : okM rs n n) (h1 : 1 ≤ n) (h2 : n ≤ 12) : squareM rs = 0 := by
  rw [squareM, checkM_of h h1 h2 h1 h2, if_neg (by simp), h.1, h.len0 (by omega), if_neg (by simp)]
theorem isRes_of {xs : List Int} (h : ∀ x ∈ xs, 0 ≤ x ∧ x < 65521) : isRes xs = true := by
  rw [isRes, List.all_eq_true]; intro x hx; have := h x hx; simp [isN]; omega
theorem mul_mul (n : Nat) (A B C : Mx) (i k : Nat) : mul n (mul n A B) C i k = mul n A (mul n B C) i k := by
  unfold mul
  rw [S_congr (g := fun j => S n (fun q => A i q * B q j * C j k)) (fun j _ => (S_mul' n _ _).symm), S_swap]
  exact S_congr fun q _ => by rw [← S_mul]; exact S_congr fun j _ => by grind
theorem G_idM {n i k : Nat} (hi : i < n) (hk : k < n) : G (idM n) i k = one i k := by
  show toF (gM (idM n) i k) = one i k
  rw [idM, gM_mat _ hi hk]; unfold one; split <;> rfl
section
variable {a b c : List (List Int)} {n : Nat}
theorem mul_congr' {A B C : Mx} (h : ∀ i q, i < n → q < n → B i q = C i q) {i q : Nat} (hi : i < n) : mul n B A i q = mul n C A i q := S_congr fun j hj => by rw [h i j hi hj]
theorem prodM_assoc (ha : okM a n n) (hb : okM b n n) (hc : okM c n n) (hn : 0 < n) : prodM (prodM a b) c = prodM a (prodM b c) := by
  have h1 := okM_prodn ha hb hn
  have h2 := okM_prodn hb hc hn
  refine okM_ext (okM_prodn h1 hc hn) (okM_prodn ha h2 hn) fun i k hi hk => ?_
  rw [G_prod h1 hc hn hi hk, G_prod ha h2 hn hi hk, mul_congr' (fun i q hi hq => G_prod ha hb hn hi hq) hi, mul_congr (G a) (fun i q hi hq => G_prod hb hc hn hi hq) hk, mul_mul]
theorem prodM_id (ha : okM a n n) (hn : 0 < n) : prodM a (idM n) = a := by
  refine okM_ext (okM_prodn ha (okM_id n) hn) ha fun i k hi hk => ?_
  rw [G_prod ha (okM_id n) hn hi hk, mul_congr (G a) (fun i q hi hq => G_idM hi hq) hk]
  exact inv_right.one_sum' _ hk
theorem id_prodM (ha : okM a n n) (hn : 0 < n) : prodM (idM n) a = a := by
  refine okM_ext (okM_prodn (okM_id n) ha hn) ha fun i k hi hk => ?_
  rw [G_prod (okM_id n) ha hn hi hk, mul_congr' (fun i q hi hq => G_idM hi hq) hi]
  show S n _ = _
  rw [S_one (k := i) hi (fun j _ hne => by simp only [one]; rw [if_neg (fun e => hne e.symm)]; grind)]; simp only [one, if_true]; grind
/-- The power, by its exponent. -/
def powL (a : List (List Int)) (n : Nat) : Nat → List (List Int)
  | 0 => idM n
  | e + 1 => prodM a (powL a n e)
theorem okM_powL (ha : okM a n n) (hn : 0 < n) (e : Nat) : okM (powL a n e) n n := by
  induction e with
  | zero => exact okM_id n
  | succ e ih => exact okM_prodn ha ih hn
theorem powL_add (ha : okM a n n) (hn : 0 < n) (e f : Nat) : powL a n (e + f) = prodM (powL a n e) (powL a n f) := by
  induction e with
  | zero => rw [Nat.zero_add]; exact (id_prodM (okM_powL ha hn f) hn).symm
  | succ e ih =>
    rw [show e + 1 + f = (e + f) + 1 by omega]
    show prodM a (powL a n (e + f)) = prodM (prodM a (powL a n e)) (powL a n f)
    rw [ih, prodM_assoc ha (okM_powL ha hn e) (okM_powL ha hn f) hn]
theorem powL_sq (ha : okM a n n) (hn : 0 < n) (e : Nat) : powL (prodM a a) n e = powL a n (e + e) := by
  induction e with
  | zero => rfl
  | succ e ih =>
    rw [show e + 1 + (e + 1) = (e + e) + 1 + 1 by omega]
    show prodM (prodM a a) (powL (prodM a a) n e) = prodM a (prodM a (powL a n (e + e)))
    rw [ih, prodM_assoc ha ha (okM_powL ha hn _) hn]
theorem powF_eq (hn : 0 < n) : ∀ (f : Nat) (o a : List (List Int)) (e : Nat), okM o n n → okM a n n → e < 2 ^ f → powF f o a e = prodM o (powL a n e)
  | 0, o, a, e, ho, ha, he => by
    have : e = 0 := by simpa using he
    subst this
    exact (prodM_id ho hn).symm
  | f + 1, o, a, e, ho, ha, he => by
    by_cases h0 : e = 0
    · subst h0; rw [powF, if_pos rfl]; exact (prodM_id ho hn).symm
    · have h2 : e / 2 < 2 ^ f := by rw [Nat.pow_succ] at he; omega
      rw [powF, if_neg h0]
      by_cases hodd : e % 2 = 1
      · rw [if_pos hodd, powF_eq hn f _ _ _ (okM_prodn ho ha hn) (okM_prodn ha ha hn) h2, powL_sq ha hn, prodM_assoc ho ha (okM_powL ha hn _) hn]
        have e2 : e = (e / 2 + e / 2) + 1 := by omega
        conv => rhs; rw [e2]
        rfl
      · rw [if_neg hodd, powF_eq hn f _ _ _ ho (okM_prodn ha ha hn) h2, powL_sq ha hn, show e / 2 + e / 2 = e by omega]
theorem powMat_eq (ha : okM a n n) (hn : 0 < n) {e : Nat} (he : e < 18446744073709551616) : powMat a e = powL a n e := by
  rw [powMat, ha.1, powF_eq hn 64 _ _ _ (okM_id n) ha (by simpa using he), id_prodM (okM_powL ha hn e) hn]
theorem detM_prod (ha : okM a n n) (hb : okM b n n) (hn : 0 < n) : detM (prodM a b) = detM a * detM b % 65521 := by
  refine toF_inj (detM_bd _ (okM_prodn ha hb hn)) ⟨Int.emod_nonneg _ (by decide), Int.emod_lt_of_pos _ (by decide)⟩ ?_
  rw [detM_eq (okM_prodn ha hb hn), toF_emod, toF_mul, detM_eq ha, detM_eq hb, ← D_mul]
  exact D_congr n _ _ fun i k hi hk => G_prod ha hb hn hi hk
end
end Go.Proofs.YtfljkcmijnhgkaaDoor
