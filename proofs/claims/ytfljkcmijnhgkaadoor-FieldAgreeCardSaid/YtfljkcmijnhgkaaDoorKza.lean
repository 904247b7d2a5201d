/- The reference's determinant is the program's; inverses, found column by column, are the program's. The characteristic numbers that the reference finds by a system are the program's. Products of square matrices: put together in any way; powers; what a square matrix answers. -/
import Derived.Test.YtfljkcmijnhgkaaDoorKu
import Derived.Test.YtfljkcmijnhgkaaDoorKq
import Derived.Test.YtfljkcmijnhgkaaDoorKn
import Derived.Test.YtfljkcmijnhgkaaDoorKg
import Derived.Test.YtfljkcmijnhgkaaDoorKh
import Derived.Test.YtfljkcmijnhgkaaDoorKb
import Derived.Test.YtfljkcmijnhgkaaDoorKy
import Derived.Deep.DeepCutAuto
import Derived.Test.YtfljkcmijnhgkaaDoorKi
import Derived.Test.YtfljkcmijnhgkaaDoorKya
namespace Go.Proofs.YtfljkcmijnhgkaaDoor
theorem getD_map_range {α : Type} (f : Nat → α) (d : α) {n i : Nat} (h : i < n) : ((List.range n).map f).getD i d = f i := by
  rw [List.getD_eq_getElem?_getD, List.getElem?_map, List.getElem?_range h]; rfl
/-- Two matrices of residues are the same if their residues are. -/
theorem okM_ext {a b : List (List Int)} {n m : Nat} (ha : okM a n m) (hb : okM b n m) (h : ∀ i k, i < n → k < m → G a i k = G b i k) : a = b := by
  apply List.ext_getElem (by rw [ha.1, hb.1])
  intro i h1 h2
  have hi : i < n := by rw [ha.1] at h1; exact h1
  have ea : a[i] = a.getD i [] := by rw [List.getD_eq_getElem?_getD, List.getElem?_eq_getElem h1]; rfl
  have eb : b[i] = b.getD i [] := by rw [List.getD_eq_getElem?_getD, List.getElem?_eq_getElem h2]; rfl
  rw [ea, eb]
  apply List.ext_getElem (by rw [ha.row hi, hb.row hi])
  intro k h3 h4
  have hk : k < m := by rw [ha.row hi] at h3; exact h3
  have e1 : (a.getD i [])[k] = gM a i k := by unfold gM; rw [List.getD_eq_getElem?_getD (l := a.getD i []), List.getElem?_eq_getElem h3]; rfl
  have e2 : (b.getD i [])[k] = gM b i k := by unfold gM; rw [List.getD_eq_getElem?_getD (l := b.getD i []), List.getElem?_eq_getElem h4]; rfl
  rw [e1, e2]
  exact toF_inj (ha.num i k) (hb.num i k) (h i k hi hk)
theorem gM_idAug {rs : List (List Int)} {n : Nat} (h : okM rs n n) {i : Nat} (hi : i < n) (k : Nat) : G (idAug rs) i k = if k < n then G rs i k else if k < n + n then one i (k - n) else 0 := by
  have e : (idAug rs).getD i [] = rs.getD i [] ++ (idM n).getD i [] := by
    rw [idAug, h.1]; exact getD_map_range _ _ hi
  unfold G gM
  rw [e, List.getD_eq_getElem?_getD (l := rs.getD i [] ++ _), List.getElem?_append, h.row hi]
  by_cases hk : k < n
  · rw [if_pos hk, if_pos hk, ← List.getD_eq_getElem?_getD]
  · rw [if_neg hk, if_neg hk, ← List.getD_eq_getElem?_getD]
    have hrow : (idM n).getD i [] = (List.range n).map (fun k => if i = k then (1 : Int) else 0) := by unfold idM; exact mat_getD _ hi
    rw [hrow]
    by_cases hk2 : k < n + n
    · rw [if_pos hk2, getD_map_range _ _ (by omega)]; unfold one; split <;> rfl
    · rw [if_neg hk2, getD_none (by simp; omega)]; rfl
/-- The inverse as the program has it. -/
def invM (rs : List (List Int)) : List (List Int) := (invS rs).rows.map (·.drop rs.length)
theorem invS_run {rs : List (List Int)} {n : Nat} (h : okM rs n n) : Run n (n + n) (fun x y => x < y) (G (idAug rs)) (invS rs) (List.range n) := by
  unfold invS
  rw [h.1]
  exact solveS_run (okM_idAug h) (pair_lt n)
theorem gM_invM {rs : List (List Int)} {n : Nat} (h : okM rs n n) {i : Nat} (hi : i < n) (k : Nat) : G (invM rs) i k = G (invS rs).rows i (n + k) := by
  have hR := invS_run h
  have hlt : i < (invS rs).rows.length := by rw [hR.ok.1]; exact hi
  unfold G gM invM
  rw [List.getD_eq_getElem?_getD (l := (invS rs).rows.map _), List.getElem?_map, List.getElem?_eq_getElem hlt, h.1, List.getD_eq_getElem?_getD (l := (invS rs).rows), List.getElem?_eq_getElem hlt]
  simp only [Option.map_some, Option.getD_some]
  rw [List.getD_eq_getElem?_getD, List.getElem?_drop, List.getD_eq_getElem?_getD]
/-- A matrix whose elimination finds all pivots times what it leaves is the identity, either way round. -/
theorem inv_right {rs : List (List Int)} {n : Nat} (h : okM rs n n) (hp : (invS rs).piv.length = n) : (∀ i k, i < n → k < n → mul n (G rs) (G (invM rs)) i k = one i k) ∧ ∀ i k, i < n → k < n → mul n (G (invM rs)) (G rs) i k = one i k := by
  have hR := invS_run h
  have hfull := hR.full hp
  constructor
  · intro i k hi hk
    obtain ⟨c, hc⟩ := hR.back i hi
    have h1 : ∀ j, j < n → G rs i j = c j := fun j hj => by
      have := hc j
      rw [gM_idAug h hi, if_pos hj] at this
      rw [this, S_congr (g := fun q => c q * one q j) (fun q hq => by rw [hfull q j hq hj]), one_sum' c hj]
    have h2 := hc (n + k)
    rw [gM_idAug h hi, if_neg (by omega), if_pos (by omega), Nat.add_sub_cancel_left] at h2
    rw [h2]
    exact S_congr fun q hq => by rw [h1 q hq, gM_invM h hq]
  · intro i k hi hk
    obtain ⟨c, hc⟩ := hR.into i hi
    have h1 : ∀ j, j < n → G (invM rs) i j = c j := fun j hj => by
      have := hc (n + j)
      rw [← gM_invM h hi] at this
      rw [this, S_congr (g := fun q => c q * one q j) (fun q hq => by rw [gM_idAug h hq, if_neg (by omega), if_pos (by omega), Nat.add_sub_cancel_left]), one_sum' c hj]
    have h2 := hc k
    rw [hfull i k hi hk] at h2
    rw [h2]
    exact S_congr fun q hq => by rw [h1 q hq, gM_idAug h hq, if_pos hk]
where
  one_sum' {n k : Nat} (f : Nat → Fp) (hk : k < n) : S n (fun j => f j * one j k) = f k := by
    rw [S_one (k := k) hk (fun j _ hn => by simp only [one, if_neg hn]; grind)]; simp only [one, if_true]; grind
end Go.Proofs.YtfljkcmijnhgkaaDoor

namespace Go.Proofs.YtfljkcmijnhgkaaDoor
theorem G_prod {a b : List (List Int)} {n : Nat} (ha : okM a n n) (hb : okM b n n) (hn : 0 < n) {i k : Nat} (hi : i < n) (hk : k < n) : G (prodM a b) i k = mul n (G a) (G b) i k := by
  show toF (gM (prodM a b) i k) = _
  rw [prodM, ha.1, hb.len0 hn, gM_mat _ hi hk, prodE, ha.row hi, toF_emod, toF_psum]
  exact S_congr fun j _ => by rw [toF_emod, toF_mul]; rfl
theorem okM_prodn {a b : List (List Int)} {n : Nat} (ha : okM a n n) (hb : okM b n n) (hn : 0 < n) : okM (prodM a b) n n := okM_prod ha hb hn
end Go.Proofs.YtfljkcmijnhgkaaDoor

namespace Go.Proofs.YtfljkcmijnhgkaaDoor
theorem isRes_of {xs : List Int} (h : ∀ x ∈ xs, 0 ≤ x ∧ x < 65521) : isRes xs = true := by
  rw [isRes, List.all_eq_true]; intro x hx; have := h x hx; simp [isN]; omega
theorem mul_mul (n : Nat) (A B C : Mx) (i k : Nat) : mul n (mul n A B) C i k = mul n A (mul n B C) i k := by
  unfold mul
  rw [S_congr (g := fun j => S n (fun q => A i q * B q j * C j k)) (fun j _ => (S_mul' n _ _).symm), S_swap]
  exact S_congr fun q _ => by rw [← S_mul]; exact S_congr fun j _ => by grind
theorem G_idM {n i k : Nat} (hi : i < n) (hk : k < n) : G (idM n) i k = one i k := by
  show toF (gM (idM n) i k) = one i k
  rw [idM, gM_mat _ hi hk]; unfold one; split <;> rfl
section
variable {a b c : List (List Int)} {n : Nat}
theorem mul_congr' {A B C : Mx} (h : ∀ i q, i < n → q < n → B i q = C i q) {i q : Nat} (hi : i < n) : mul n B A i q = mul n C A i q := S_congr fun j hj => by rw [h i j hi hj]
theorem prodM_assoc (ha : okM a n n) (hb : okM b n n) (hc : okM c n n) (hn : 0 < n) : prodM (prodM a b) c = prodM a (prodM b c) := by
  have h1 := okM_prodn ha hb hn
  have h2 := okM_prodn hb hc hn
  refine okM_ext (okM_prodn h1 hc hn) (okM_prodn ha h2 hn) fun i k hi hk => ?_
  rw [G_prod h1 hc hn hi hk, G_prod ha h2 hn hi hk, mul_congr' (fun i q hi hq => G_prod ha hb hn hi hq) hi, mul_congr (G a) (fun i q hi hq => G_prod hb hc hn hi hq) hk, mul_mul]
theorem prodM_id (ha : okM a n n) (hn : 0 < n) : prodM a (idM n) = a := by
  refine okM_ext (okM_prodn ha (okM_id n) hn) ha fun i k hi hk => ?_
  rw [G_prod ha (okM_id n) hn hi hk, mul_congr (G a) (fun i q hi hq => G_idM hi hq) hk]
  exact inv_right.one_sum' _ hk
theorem id_prodM (ha : okM a n n) (hn : 0 < n) : prodM (idM n) a = a := by
  refine okM_ext (okM_prodn (okM_id n) ha hn) ha fun i k hi hk => ?_
  rw [G_prod (okM_id n) ha hn hi hk, mul_congr' (fun i q hi hq => G_idM hi hq) hi]
  show S n _ = _
  rw [S_one (k := i) hi (fun j _ hne => by simp only [one]; rw [if_neg (fun e => hne e.symm)]; grind)]; simp only [one, if_true]; grind
/-- The power, by its exponent. -/
def powL (a : List (List Int)) (n : Nat) : Nat → List (List Int)
  | 0 => idM n
  | e + 1 => prodM a (powL a n e)
theorem okM_powL (ha : okM a n n) (hn : 0 < n) (e : Nat) : okM (powL a n e) n n := by
  induction e with
  | zero => exact okM_id n
  | succ e ih => exact okM_prodn ha ih hn
theorem powL_sq (ha : okM a n n) (hn : 0 < n) (e : Nat) : powL (prodM a a) n e = powL a n (e + e) := by
  induction e with
  | zero => rfl
  | succ e ih =>
    rw [show e + 1 + (e + 1) = (e + e) + 1 + 1 by omega]
    show prodM (prodM a a) (powL (prodM a a) n e) = prodM a (prodM a (powL a n (e + e)))
    rw [ih, prodM_assoc ha ha (okM_powL ha hn _) hn]
theorem powF_eq (hn : 0 < n) : ∀ (f : Nat) (o a : List (List Int)) (e : Nat), okM o n n → okM a n n → e < 2 ^ f → powF f o a e = prodM o (powL a n e)
  | 0, o, a, e, ho, ha, he => by
    have : e = 0 := by simpa using he
    subst this
    exact (prodM_id ho hn).symm
  | f + 1, o, a, e, ho, ha, he => by
    by_cases h0 : e = 0
    · subst h0; rw [powF, if_pos rfl]; exact (prodM_id ho hn).symm
    · have h2 : e / 2 < 2 ^ f := by rw [Nat.pow_succ] at he; omega
      rw [powF, if_neg h0]
      by_cases hodd : e % 2 = 1
      · rw [if_pos hodd, powF_eq hn f _ _ _ (okM_prodn ho ha hn) (okM_prodn ha ha hn) h2, powL_sq ha hn, prodM_assoc ho ha (okM_powL ha hn _) hn]
        have e2 : e = (e / 2 + e / 2) + 1 := by omega
        conv => rhs; rw [e2]
        rfl
      · rw [if_neg hodd, powF_eq hn f _ _ _ ho (okM_prodn ha ha hn) h2, powL_sq ha hn, show e / 2 + e / 2 = e by omega]
theorem powMat_eq (ha : okM a n n) (hn : 0 < n) {e : Nat} (he : e < 18446744073709551616) : powMat a e = powL a n e := by
  rw [powMat, ha.1, powF_eq hn 64 _ _ _ (okM_id n) ha (by simpa using he), id_prodM (okM_powL ha hn e) hn]
end
end Go.Proofs.YtfljkcmijnhgkaaDoor
