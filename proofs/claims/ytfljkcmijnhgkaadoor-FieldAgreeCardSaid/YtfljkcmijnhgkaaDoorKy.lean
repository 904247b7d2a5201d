/- Residues modulo the prime 65521 are a field: sums, products, inverses, powers. Sums of residues, and that more rows than columns depend on each other. Determinants: they change their signs with rows, and are linear in each row. What an elimination keeps and leaves: rows, signs, and the shape of columns. Ranks do not depend on the order of the columns; the program's determinant is the one by the first column; determinants of products. Systems: what solves one, that a solution is found where there is one, and that it is the first one. -/
import Derived.Test.YtfljkcmijnhgkaaDoorKa
import Derived.Test.YtfljkcmijnhgkaaDoorKd
import Derived.Test.YtfljkcmijnhgkaaDoorKf
namespace Go.Proofs.YtfljkcmijnhgkaaDoor
theorem small_div : ∀ q : Fin 257, 1 < q.val → 65521 % q.val ≠ 0 := by decide +kernel
def expo : Nat := 65520
theorem small_pow : ∀ a : Fin 257, 0 < a.val → a.val ^ expo % 65521 = 1 := by decide +kernel
/-- Fermat's theorem. -/
theorem fermat (a : Nat) : 0 < a → a < 65521 → a ^ expo % 65521 = 1 := by
  induction a using Nat.strongRecOn with
  | ind a ih =>
    intro h0 h1
    by_cases hs : a < 257
    · exact small_pow ⟨a, hs⟩ h0
    · have e := Nat.div_add_mod 65521 a
      have hr : 65521 % a < a := Nat.mod_lt _ h0
      have hq : 65521 / a < 256 := Nat.div_lt_of_lt_mul (by omega)
      have hq0 : 0 < 65521 / a := Nat.div_pos (by omega) h0
      have hr0 : 0 < 65521 % a := by
        rcases Nat.eq_zero_or_pos (65521 % a) with hz | hz
        · rw [hz] at e
          by_cases hq1 : 65521 / a = 1
          · rw [hq1] at e; omega
          · have hd : 65521 / a ∣ 65521 := ⟨a, by rw [Nat.mul_comm]; omega⟩
            exact absurd (Nat.mod_eq_zero_of_dvd hd) (small_div ⟨65521 / a, by omega⟩ (by show 1 < 65521 / a; omega))
        · exact hz
      have ir := ih _ hr hr0 (by omega)
      have iq := ih _ (show 65521 / a < a by omega) hq0 (by omega)
      generalize 65521 % a = r at *
      generalize 65521 / a = q at *
      have h2 : (a * q) ^ 2 % 65521 = r ^ 2 % 65521 := by
        have e2 : ((a * q : Nat) : Int) = 65521 - (r : Int) := by have : ((a * q + r : Nat) : Int) = 65521 := by rw [e]; rfl
                                                                  push_cast at this ⊢; omega
        have e3 : (((a * q) ^ 2 : Nat) : Int) = ((r ^ 2 : Nat) : Int) + 65521 * (65521 - 2 * (r : Int)) := by
          push_cast at e2 ⊢
          rw [e2]; grind
        have e4 : (((a * q) ^ 2 : Nat) : Int) % 65521 = ((r ^ 2 : Nat) : Int) % 65521 := by rw [e3, Int.add_mul_emod_self_left]
        omega
      have h3 : (a * q) ^ expo % 65521 = 1 := by
        obtain ⟨m, hm⟩ : ∃ m, expo = 2 * m := ⟨32760, rfl⟩
        rw [hm] at ir ⊢
        rw [Nat.pow_mul, Nat.pow_mod, h2, ← Nat.pow_mod, ← Nat.pow_mul]
        exact ir
      rw [Nat.mul_pow, Nat.mul_mod, iq, Nat.mul_one, Nat.mod_mod] at h3
      exact h3

/-- The residues. -/
abbrev Fp := Fin 65521
/-- The residue of a number. -/
def toF (x : Int) : Fp := ⟨(x % 65521).toNat, by omega⟩
theorem toF_val (x : Int) : ((toF x).val : Int) = x % 65521 := by simp only [toF]; omega
theorem fp_ext {a b : Fp} (h : (a.val : Int) = b.val) : a = b := Fin.ext (by omega)
theorem toF_add (x y : Int) : toF (x + y) = toF x + toF y := by
  apply fp_ext
  have h1 := toF_val x; have h2 := toF_val y
  rw [toF_val, Fin.val_add, Int.natCast_emod, Int.natCast_add, h1, h2]
  exact Int.add_emod x y 65521
theorem toF_mul (x y : Int) : toF (x * y) = toF x * toF y := by
  apply fp_ext
  rw [toF_val, Fin.val_mul, Int.natCast_emod, Int.natCast_mul, toF_val, toF_val]
  exact Int.mul_emod x y 65521
theorem toF_emod (x : Int) : toF (x % 65521) = toF x := by
  apply fp_ext
  rw [toF_val, toF_val, Int.emod_emod_of_dvd _ (Int.dvd_refl _)]
theorem toF_zero : toF 0 = 0 := rfl
theorem toF_one : toF 1 = 1 := rfl
theorem toF_p : toF 65521 = 0 := rfl
theorem toF_neg (x : Int) : toF (-x) = - toF x := by
  have h : toF (-x) + toF x = 0 := by rw [← toF_add, Int.add_left_neg, toF_zero]
  grind
theorem toF_sub (x y : Int) : toF (x - y) = toF x - toF y := by
  rw [Int.sub_eq_add_neg, toF_add, toF_neg]; grind
theorem toF_inj {x y : Int} (hx : 0 ≤ x ∧ x < 65521) (hy : 0 ≤ y ∧ y < 65521) (h : toF x = toF y) : x = y := by
  have h1 := toF_val x; have h2 := toF_val y
  rw [h] at h1; omega
theorem toF_eq_zero {x : Int} (hx : 0 ≤ x ∧ x < 65521) : toF x = 0 ↔ x = 0 :=
  ⟨fun h => toF_inj hx (by decide) (h.trans toF_zero.symm), fun h => by rw [h, toF_zero]⟩
/-- What gives 1 with a residue. -/
def inv (a : Fp) : Fp := toF (invN (a.val : Int))
theorem mul_inv {a : Fp} (h : a ≠ 0) : a * inv a = 1 := by
  have h0 : 0 < a.val := by
    rcases Nat.eq_zero_or_pos a.val with e | e
    · exact absurd (Fin.ext e) h
    · exact e
  have hf := fermat a.val h0 a.isLt
  apply Fin.ext
  rw [Fin.val_mul]
  have e : (inv a).val = a.val ^ 65519 % 65521 := by
    have := toF_val (invN (a.val : Int))
    rw [invN, Int.toNat_natCast] at this
    simp only [inv, invN, Int.toNat_natCast]
    omega
  obtain ⟨k, hk, hk2⟩ : ∃ k, k = 65519 ∧ expo = k + 1 := ⟨65519, rfl, rfl⟩
  rw [← hk] at e
  rw [hk2] at hf
  rw [e, Nat.mul_mod_mod, ← Nat.pow_succ', hf]; rfl
theorem inv_mul {a : Fp} (h : a ≠ 0) : inv a * a = 1 := by rw [← mul_inv h]; grind
theorem toF_inv {x : Int} (hx : 0 ≤ x ∧ x < 65521) : toF (invN x) = inv (toF x) := by
  have e : ((toF x).val : Int) = x := by rw [toF_val]; omega
  rw [inv, e]
theorem mul_zero_cases {a b : Fp} (h : a * b = 0) : a = 0 ∨ b = 0 := by
  by_cases ha : a = 0
  · exact Or.inl ha
  · have := inv_mul ha
    exact Or.inr (by grind)
theorem one_ne_zero : (1 : Fp) ≠ 0 := by decide
end Go.Proofs.YtfljkcmijnhgkaaDoor

namespace Go.Proofs.YtfljkcmijnhgkaaDoor
/-- Sums. -/
def S : Nat → (Nat → Fp) → Fp
  | 0, _ => 0
  | n + 1, f => S n f + f n
theorem S_congr {n : Nat} {f g : Nat → Fp} (h : ∀ i, i < n → f i = g i) : S n f = S n g := by
  induction n with
  | zero => rfl
  | succ n ih => rw [S, S, ih (fun i hi => h i (by omega)), h n (by omega)]
theorem S_zero {n : Nat} {f : Nat → Fp} (h : ∀ i, i < n → f i = 0) : S n f = 0 := by
  induction n with
  | zero => rfl
  | succ n ih => rw [S, ih (fun i hi => h i (by omega)), h n (by omega)]; grind
theorem S_add (n : Nat) (f g : Nat → Fp) : S n (fun i => f i + g i) = S n f + S n g := by
  induction n with
  | zero => simp only [S]; grind
  | succ n ih => rw [S, S, S, ih]; grind
theorem S_mul (n : Nat) (c : Fp) (f : Nat → Fp) : S n (fun i => c * f i) = c * S n f := by
  induction n with
  | zero => simp only [S]; grind
  | succ n ih => rw [S, S, ih]; grind
theorem S_mul' (n : Nat) (c : Fp) (f : Nat → Fp) : S n (fun i => f i * c) = S n f * c := by
  induction n with
  | zero => simp only [S]; grind
  | succ n ih => rw [S, S, ih]; grind
theorem S_sub (n : Nat) (f g : Nat → Fp) : S n (fun i => f i - g i) = S n f - S n g := by
  induction n with
  | zero => simp only [S]; grind
  | succ n ih => rw [S, S, S, ih]; grind
theorem S_neg (n : Nat) (f : Nat → Fp) : S n (fun i => - f i) = - S n f := by
  induction n with
  | zero => simp only [S]; grind
  | succ n ih => rw [S, S, ih]; grind
theorem S_one {n k : Nat} {f : Nat → Fp} (hk : k < n) (h : ∀ i, i < n → i ≠ k → f i = 0) : S n f = f k := by
  induction n with
  | zero => omega
  | succ n ih =>
    rw [S]
    by_cases e : k = n
    · subst e
      rw [S_zero (fun i hi => h i (by omega) (by omega))]; grind
    · rw [ih (by omega) (fun i hi hn => h i (by omega) hn), h n (by omega) (by omega)]; grind
theorem S_swap (n m : Nat) (f : Nat → Nat → Fp) : S n (fun i => S m (f i)) = S m (fun k => S n (fun i => f i k)) := by
  induction n with
  | zero => exact (S_zero (fun _ _ => rfl)).symm
  | succ n ih => rw [S, ih, ← S_add]; rfl
theorem S_split (n k : Nat) (f : Nat → Fp) : S (n + k) f = S n f + S k (fun i => f (n + i)) := by
  induction k with
  | zero => simp only [S]; grind
  | succ k ih => rw [← Nat.add_assoc, S, S, ih]; grind
theorem S_first (n : Nat) (f : Nat → Fp) : S (n + 1) f = f 0 + S n (fun i => f (i + 1)) := by
  rw [Nat.add_comm n 1, S_split]
  simp only [S, Nat.add_comm 1]; grind
/-- One term apart. -/
theorem S_apart {n k : Nat} (f : Nat → Fp) (hk : k < n) : S n f = f k + S n (fun i => if i = k then 0 else f i) := by
  have h : S n f = S n (fun i => (if i = k then f i else 0) + (if i = k then 0 else f i)) := S_congr fun i _ => by split <;> simp
  rw [h, S_add, S_one (k := k) hk (fun i _ hn => by simp [hn])]; simp
theorem toF_psum (f : Nat → Int) (n : Nat) : toF (psum f n) = S n (fun i => toF (f i)) := by
  induction n with
  | zero => rfl
  | succ n ih => rw [psum, toF_add, ih]; rfl

/-- More rows than columns: some multiples of the rows, not all 0, add up to 0. -/
theorem depend (k : Nat) : ∀ (L : List Nat) (C : Nat → Nat → Fp), L.length < k → ∃ x : Nat → Fp, (∃ i, i < k ∧ x i ≠ 0) ∧ ∀ j, j ∈ L → S k (fun i => x i * C i j) = 0 := by
  induction k with
  | zero => intro L C h; omega
  | succ k ih =>
    intro L C h
    by_cases hz : ∀ j, j ∈ L → C k j = 0
    · refine ⟨fun i => if i = k then 1 else 0, ⟨k, by omega, by simp⟩, fun j hj => ?_⟩
      rw [S_one (k := k) (by omega) (fun i _ hn => by simp only [hn, if_false]; grind)]
      simp only [if_true, hz j hj]; grind
    · have hz' : ∃ j, j ∈ L ∧ C k j ≠ 0 := Classical.byContradiction fun hn => hz fun j hj => Classical.byContradiction fun hc => hn ⟨j, hj, hc⟩
      obtain ⟨j0, hj0, hc⟩ := hz'
      obtain ⟨x, ⟨i, hi, hxi⟩, hx⟩ := ih (L.erase j0) (fun i j => C i j - C i j0 * inv (C k j0) * C k j) (by rw [List.length_erase_of_mem hj0]; have := List.length_pos_of_mem hj0; omega)
      have hm := inv_mul hc
      refine ⟨fun i => if i < k then x i else - S k (fun i => x i * C i j0) * inv (C k j0), ⟨i, by omega, by simp [hi, hxi]⟩, fun j hj => ?_⟩
      have e : S (k + 1) (fun i => (if i < k then x i else - S k (fun i => x i * C i j0) * inv (C k j0)) * C i j) = S k (fun i => x i * (C i j - C i j0 * inv (C k j0) * C k j)) := by
        rw [S, if_neg (Nat.lt_irrefl k), S_congr (g := fun i => x i * C i j) (fun i hi => by rw [if_pos hi])]
        have e2 : S k (fun i => x i * (C i j - C i j0 * inv (C k j0) * C k j)) = S k (fun i => x i * C i j - x i * C i j0 * (inv (C k j0) * C k j)) := S_congr fun i _ => by grind
        rw [e2, S_sub, S_mul']; grind
      show S (k + 1) (fun i => (if i < k then x i else - S k (fun i => x i * C i j0) * inv (C k j0)) * C i j) = 0
      rw [e]
      by_cases hjj : j = j0
      · subst hjj
        exact S_zero fun i _ => by grind
      · exact hx j ((List.mem_erase_of_ne hjj).2 hj)
end Go.Proofs.YtfljkcmijnhgkaaDoor

namespace Go.Proofs.YtfljkcmijnhgkaaDoor
abbrev Mx := Nat → Nat → Fp
/-- Row i is another one now. -/
def upd (A : Mx) (i : Nat) (r : Nat → Fp) : Mx := fun a b => if a = i then r b else A a b
def minor (A : Mx) (i : Nat) : Mx := fun a b => A (if a < i then a else a + 1) (b + 1)
def sgn (i : Nat) : Fp := if i % 2 = 0 then 1 else -1
theorem sgn_succ (i : Nat) : sgn (i + 1) = - sgn i := by
  unfold sgn
  by_cases h : i % 2 = 0
  · rw [if_pos h, if_neg (by omega)]
  · rw [if_neg h, if_pos (by omega)]; grind
/-- The determinant, by its first column. -/
def D : Nat → Mx → Fp
  | 0, _ => 1
  | n + 1, A => S (n + 1) (fun i => sgn i * A i 0 * D n (minor A i))
theorem D_congr : ∀ (n : Nat) (A B : Mx), (∀ i k, i < n → k < n → A i k = B i k) → D n A = D n B
  | 0, _, _, _ => rfl
  | n + 1, A, B, h => by
    rw [D, D]
    refine S_congr fun i hi => ?_
    rw [h i 0 hi (by omega), D_congr n (minor A i) (minor B i) (fun a b ha hb => h _ _ (by split <;> omega) (by omega))]
theorem minor_upd_eq (A : Mx) (i : Nat) (w : Nat → Fp) : minor (upd A i w) i = minor A i := by
  funext a b
  unfold minor upd
  rw [if_neg]
  split <;> omega
theorem minor_upd_ne (A : Mx) {i j : Nat} (w : Nat → Fp) (h : j ≠ i) : minor (upd A i w) j = upd (minor A j) (if i < j then i else i - 1) (fun b => w (b + 1)) := by
  funext a b
  unfold minor upd
  have e : ((if a < j then a else a + 1) = i) ↔ (a = if i < j then i else i - 1) := by
    split <;> split <;> omega
  by_cases h2 : (if a < j then a else a + 1) = i
  · rw [if_pos h2, if_pos (e.1 h2)]
  · rw [if_neg h2, if_neg (fun h3 => h2 (e.2 h3))]
theorem D_lin : ∀ (n : Nat) (A : Mx) (i : Nat) (u v : Nat → Fp) (c : Fp), i < n → D n (upd A i (fun k => u k + c * v k)) = D n (upd A i u) + c * D n (upd A i v)
  | 0, _, _, _, _, _, h => by omega
  | n + 1, A, i, u, v, c, h => by
    rw [D, D, D, ← S_mul, ← S_add]
    refine S_congr fun j hj => ?_
    by_cases e : j = i
    · subst e
      rw [minor_upd_eq, minor_upd_eq, minor_upd_eq]
      simp only [upd, if_true]; grind
    · rw [minor_upd_ne A _ e, minor_upd_ne A _ e, minor_upd_ne A _ e, D_lin n (minor A j) _ (fun b => u (b + 1)) (fun b => v (b + 1)) c (by split <;> omega)]
      simp only [upd, if_neg e]; grind
theorem S_two {n i k : Nat} {f : Nat → Fp} (hi : i < n) (hk : k < n) (hn : i ≠ k) (h : ∀ j, j < n → j ≠ i → j ≠ k → f j = 0) : S n f = f i + f k := by
  rw [S_apart f hi, S_one (k := k) hk (fun j hj hn => by by_cases e : j = i <;> simp [e]; exact h j hj e hn)]
  rw [if_neg (fun e => hn e.symm)]
theorem D_adj : ∀ (n : Nat) (A : Mx) (i : Nat), i + 1 < n → (∀ k, A i k = A (i + 1) k) → D n A = 0
  | 0, _, _, h, _ => by omega
  | n + 1, A, i, h, he => by
    rw [D, S_two (i := i) (k := i + 1) (by omega) h (by omega)]
    · have hm : minor A i = minor A (i + 1) := by
        funext a b
        unfold minor
        by_cases h1 : a < i
        · rw [if_pos h1, if_pos (by omega)]
        · by_cases h2 : a = i
          · subst h2
            rw [if_neg h1, if_pos (by omega), he]
          · rw [if_neg h1, if_neg (by omega)]
      rw [hm, he, sgn_succ]; grind
    · intro j hj h1 h2
      rw [D_adj n (minor A j) (if j < i then i - 1 else i) (by split <;> omega)]
      · grind
      · intro k
        unfold minor
        by_cases h3 : j < i
        · rw [if_pos h3, if_neg (by omega), if_neg (by omega), show i - 1 + 1 = i by omega]; exact he _
        · rw [if_neg h3, if_pos (by omega), if_pos (by omega)]; exact he _
theorem upd_same (A : Mx) (i : Nat) : upd A i (A i) = A := by
  funext a b; unfold upd; split
  · rename_i h; rw [h]
  · rfl
theorem upd_comm (A : Mx) {i j : Nat} (u v : Nat → Fp) (h : i ≠ j) : upd (upd A i u) j v = upd (upd A j v) i u := by
  funext a b; unfold upd
  by_cases h1 : a = j
  · rw [if_pos h1, if_neg (by omega), if_pos h1]
  · rw [if_neg h1, if_neg h1]
theorem D_swap_of {n i j : Nat} (hi : i < n) (hj : j < n) (hij : i ≠ j) (ha : ∀ A : Mx, (∀ k, A i k = A j k) → D n A = 0) (A : Mx) (u v : Nat → Fp) :
    D n (upd (upd A i u) j v) = - D n (upd (upd A i v) j u) := by
  have same : ∀ w, D n (upd (upd A i w) j w) = 0 := fun w => ha _ fun k => by
    unfold upd; rw [if_neg (by omega), if_pos rfl, if_pos rfl]
  have h1 := same (fun k => u k + 1 * v k)
  rw [D_lin n _ j u v 1 hj, upd_comm A _ _ hij, upd_comm A _ _ hij, D_lin n _ i u v 1 hi, D_lin n _ i u v 1 hi, ← upd_comm A _ _ hij, ← upd_comm A _ _ hij, ← upd_comm A _ _ hij, ← upd_comm A _ _ hij, same, same] at h1
  grind
theorem D_eq (n : Nat) : ∀ (d : Nat) (A : Mx) (i : Nat), i + 1 + d < n → (∀ k, A i k = A (i + 1 + d) k) → D n A = 0
  | 0, A, i, h, he => D_adj n A i h he
  | d + 1, A, i, h, he => by
    have hs := D_swap_of (n := n) (i := i + 1 + d) (j := i + 1 + d + 1) (by omega) (by omega) (by omega) (fun A he => D_adj n A _ (by omega) he) A (A (i + 1 + d)) (A (i + 1 + d + 1))
    rw [upd_same, upd_same] at hs
    rw [hs, D_eq n d _ i (by omega)]
    · grind
    · intro k
      unfold upd
      rw [if_neg (by omega), if_neg (by omega), if_pos rfl, if_neg (by omega)]
      exact he k
theorem D_same {n i j : Nat} (hi : i < n) (hj : j < n) (hij : i ≠ j) (A : Mx) (h : ∀ k, A i k = A j k) : D n A = 0 := by
  rcases Nat.lt_or_gt_of_ne hij with hl | hl
  · obtain ⟨d, rfl⟩ := Nat.exists_eq_add_of_le (show i + 1 ≤ j by omega)
    exact D_eq n d A i hj h
  · obtain ⟨d, rfl⟩ := Nat.exists_eq_add_of_le (show j + 1 ≤ i by omega)
    exact D_eq n d A j hi (fun k => (h k).symm)
/-- What is linear in rows, and 0 where two are the same, as it is seen by eliminations. -/
structure Alt (n : Nat) (f : Mx → Fp) : Prop where
  scale : ∀ (A : Mx) (i : Nat) (c : Fp), i < n → f (upd A i (fun k => c * A i k)) = c * f A
  addm : ∀ (A : Mx) (i j : Nat) (c : Fp), i < n → j < n → i ≠ j → f (upd A i (fun k => A i k + c * A j k)) = f A
  congr : ∀ (A B : Mx), (∀ i k, i < n → k < n → A i k = B i k) → f A = f B
theorem D_zero {n i : Nat} (hi : i < n) (A : Mx) : D n (upd A i (fun _ => 0)) = 0 := by
  have h := D_lin n A i (fun _ => 0) (fun _ => 0) 1 hi
  simp only [show ((0 : Fp) + 1 * 0) = 0 from rfl] at h
  grind
theorem D_alt (n : Nat) : Alt n (D n) := by
  refine ⟨fun A i c hi => ?_, fun A i j c hi hj hij => ?_, D_congr n⟩
  · have h := D_lin n A i (fun _ => 0) (A i) c hi
    rw [D_zero hi, upd_same] at h
    rw [show (fun k => c * A i k) = (fun k => (0 : Fp) + c * A i k) from funext fun k => by grind, h]; grind
  · rw [D_lin n A i (A i) (A j) c hi, upd_same, D_same hi hj hij (upd A i (A j)) (fun k => by unfold upd; rw [if_pos rfl, if_neg (by omega)])]; grind
theorem D_first {n : Nat} {A : Mx} (h : ∀ i, 0 < i → i < n + 1 → A i 0 = 0) : D (n + 1) A = A 0 0 * D n (fun a b => A (a + 1) (b + 1)) := by
  rw [D, S_one (k := 0) (by omega) (fun i hi hn => by rw [h i (by omega) hi]; grind)]
  rw [show minor A 0 = fun a b => A (a + 1) (b + 1) from by funext a b; simp [minor]]
  rw [show sgn 0 = 1 from rfl]; grind
def one : Mx := fun i k => if i = k then 1 else 0
theorem D_one_ : ∀ n, D n one = 1
  | 0 => rfl
  | n + 1 => by
    rw [D_first (fun i h0 _ => by simp [one]; omega)]
    rw [show (fun a b => one (a + 1) (b + 1)) = one from by funext a b; simp [one], D_one_ n]
    simp [one]
variable {n : Nat} {f : Mx → Fp}
theorem Alt.zero (hf : Alt n f) (A : Mx) {i : Nat} (hi : i < n) (h : ∀ k, k < n → A i k = 0) : f A = 0 := by
  have h2 := hf.scale A i 0 hi
  rw [hf.congr (upd A i fun k => 0 * A i k) A (fun a b _ hb => by unfold upd; split; rename_i e; rw [e, h b hb]; grind; rfl)] at h2
  grind
theorem Alt.swap (hf : Alt n f) (A : Mx) {i j : Nat} (hi : i < n) (hj : j < n) (hij : i ≠ j) : f (upd (upd A i (A j)) j (A i)) = - f A := by
  have h1 := hf.addm A i j 1 hi hj hij
  generalize hB : upd A i (fun k => A i k + 1 * A j k) = B at h1
  have h2 := hf.addm B j i (-1) hj hi (fun e => hij e.symm)
  generalize hC : upd B j (fun k => B j k + -1 * B i k) = C at h2
  have h3 := hf.addm C i j 1 hi hj hij
  generalize hE : upd C i (fun k => C i k + 1 * C j k) = E at h3
  have h4 := hf.scale E j (-1) hj
  have e : upd E j (fun k => -1 * E j k) = upd (upd A i (A j)) j (A i) := by
    subst hE; subst hC; subst hB
    funext a b
    by_cases h1 : a = j
    · subst h1; simp only [upd, if_true, hij, if_false]; grind
    · by_cases h2 : a = i
      · subst h2; simp only [upd, if_true]; grind
      · simp only [upd, h1, h2, if_false]
  rw [← e, h4, h3, h2, h1]; grind
/-- Multiples of row r are added to all others. -/
theorem Alt.clear (hf : Alt n f) (A : Mx) (c : Nat → Fp) {r : Nat} (hr : r < n) : ∀ j, j ≤ n → f (fun i k => if i ≠ r ∧ i < j then A i k + c i * A r k else A i k) = f A
  | 0, _ => congrArg f (by funext a b; simp)
  | j + 1, h => by
    rw [← Alt.clear hf A c hr j (by omega)]
    by_cases e : j = r
    · subst e
      refine congrArg f ?_
      funext a b
      by_cases h1 : a ≠ j ∧ a < j
      · rw [if_pos h1, if_pos (by omega)]
      · rw [if_neg h1, if_neg (by omega)]
    · rw [← hf.addm (fun i k => if i ≠ r ∧ i < j then A i k + c i * A r k else A i k) j r (c j) (by omega) hr e]
      refine congrArg f ?_
      funext a b
      unfold upd
      by_cases h1 : a = j
      · subst h1
        simp only [if_true]
        rw [if_pos (by omega), if_neg (by omega), if_neg (by omega)]
      · simp only []
        rw [if_neg h1]
        by_cases h2 : a ≠ r ∧ a < j
        · rw [if_pos h2, if_pos (by omega)]
        · rw [if_neg h2, if_neg (by omega)]
end Go.Proofs.YtfljkcmijnhgkaaDoor

namespace Go.Proofs.YtfljkcmijnhgkaaDoor
/-- A matrix of numbers as one of residues. -/
def G (rs : List (List Int)) : Mx := fun i k => toF (gM rs i k)
def swapF (A : Mx) (i j : Nat) : Mx := fun a b => A (if a = j then i else if a = i then j else a) b
def clrF (A : Mx) (r k : Nat) : Mx := fun a b => if a = r then A r b * inv (A r k) else A a b - A a k * (A r b * inv (A r k))
theorem getD_set {α : Type} (l : List α) (d v : α) (i j : Nat) : (l.set i v).getD j d = if j = i ∧ i < l.length then v else l.getD j d := by
  rw [List.getD_eq_getElem?_getD, List.getElem?_set, List.getD_eq_getElem?_getD]
  by_cases h : i = j
  · subst h
    by_cases hl : i < l.length
    · rw [if_pos rfl, if_pos hl, if_pos ⟨rfl, hl⟩]; rfl
    · rw [if_pos rfl, if_neg hl, if_neg (fun h => hl h.2), List.getElem?_eq_none (by omega)]
  · rw [if_neg h, if_neg (fun h2 => h h2.1.symm)]
theorem G_swap {rs : List (List Int)} {i j : Nat} (hi : i < rs.length) (hj : j < rs.length) : G (swapM rs i j) = swapF (G rs) i j := by
  funext a b
  unfold G swapF gM swapM
  rw [getD_set, getD_set]
  by_cases h1 : a = j
  · rw [if_pos ⟨h1, by simpa using hj⟩, if_pos h1]
  · rw [if_neg (fun h => h1 h.1), if_neg h1]
    by_cases h2 : a = i
    · rw [if_pos ⟨h2, hi⟩, if_pos h2]
    · rw [if_neg (fun h => h2 h.1), if_neg h2]
theorem range_getD {f : Nat → Int} {n k : Nat} : ((List.range n).map f).getD k 0 = if k < n then f k else 0 := by
  rw [List.getD_eq_getElem?_getD, List.getElem?_map]
  by_cases h : k < n
  · rw [if_pos h, List.getElem?_range h]; rfl
  · rw [if_neg h, List.getElem?_eq_none (by simpa using h)]; rfl
theorem getD_none {l : List Int} {k : Nat} (h : l.length ≤ k) : l.getD k 0 = 0 := by
  rw [List.getD_eq_getElem?_getD, List.getElem?_eq_none h]; rfl
theorem scaleR_get (r : List Int) (x : Int) (k : Nat) : (scaleR r x).getD k 0 = r.getD k 0 * x % 65521 := by
  rw [scaleR, range_getD]
  split
  · rfl
  · rw [getD_none (by omega)]; simp
theorem subR_get {r own : List Int} (h : own.length = r.length) (x : Int) (k : Nat) : (subR r own x).getD k 0 = (r.getD k 0 + x * own.getD k 0) % 65521 := by
  rw [subR, range_getD]
  split
  · rfl
  · rw [getD_none (by omega), getD_none (by omega)]; simp
theorem G_clear {rs : List (List Int)} {n m r k : Nat} (h : okM rs n m) (hr : r < n) : G (clearM rs r k) = clrF (G rs) r k := by
  have hinv : toF (invN (gM rs r k)) = inv (G rs r k) := toF_inv (h.num r k)
  have hown : ∀ b, toF ((ownR rs r k).getD b 0) = G rs r b * inv (G rs r k) := fun b => by
    rw [ownR, scaleR_get, toF_emod, toF_mul, hinv]; rfl
  funext a b
  by_cases ha : a < n
  · have e : (clearM rs r k).getD a [] = if a = r then ownR rs r k else if gM rs a k = 0 then rs.getD a [] else subR (rs.getD a []) (ownR rs r k) (65521 - gM rs a k) := by
      rw [clearM, List.getD_eq_getElem?_getD, List.getElem?_map, List.getElem?_range (by rw [h.1]; exact ha)]; rfl
    unfold clrF
    by_cases h1 : a = r
    · rw [if_pos h1, ← hown b, G, gM, e, if_pos h1]
    · rw [if_neg h1, ← hown b, G, gM, e, if_neg h1]
      by_cases h2 : gM rs a k = 0
      · rw [if_pos h2, show G rs a k = 0 from by rw [G, h2, toF_zero]]
        show toF (gM rs a b) = toF (gM rs a b) - _
        grind
      · have hl : (ownR rs r k).length = (rs.getD a []).length := by rw [h.row ha]; rw [ownR]; simp [scaleR]; exact h.row hr
        rw [if_neg h2, subR_get hl, toF_emod, toF_add, toF_mul, toF_sub, toF_p]
        show toF (gM rs a b) + (0 - toF (gM rs a k)) * _ = toF (gM rs a b) - toF (gM rs a k) * _
        grind
  · have z : ∀ x, G rs a x = 0 := fun x => by
      rw [G, gM, List.getD_eq_getElem?_getD (l := rs), List.getElem?_eq_none (by rw [h.1]; omega)]; rfl
    unfold clrF
    rw [if_neg (by omega), z, z, G, gM, List.getD_eq_getElem?_getD (l := clearM rs r k), List.getElem?_eq_none (by simp [clearM, h.1]; omega)]
    show (0 : Fp) = 0 - 0 * _
    grind

/-- A sum of multiples of rows. -/
def Sp (n : Nat) (A : Mx) (v : Nat → Fp) : Prop := ∃ c : Nat → Fp, ∀ k, v k = S n (fun i => c i * A i k)
theorem Sp.row {n i : Nat} (A : Mx) (hi : i < n) : Sp n A (A i) :=
  ⟨fun j => if j = i then 1 else 0, fun k => by rw [S_one (k := i) hi (fun j _ hn => by simp only [hn, if_false]; grind)]; simp only [if_true]; grind⟩
theorem Sp.add {n : Nat} {A : Mx} {u v : Nat → Fp} (hu : Sp n A u) (hv : Sp n A v) (x y : Fp) : Sp n A (fun k => x * u k + y * v k) := by
  obtain ⟨c, hc⟩ := hu
  obtain ⟨d, hd⟩ := hv
  refine ⟨fun i => x * c i + y * d i, fun k => ?_⟩
  show x * u k + y * v k = S n (fun i => (x * c i + y * d i) * A i k)
  rw [hc, hd, ← S_mul, ← S_mul, ← S_add]
  exact S_congr fun i _ => by grind
theorem Sp.trans {n m : Nat} {A B : Mx} {v : Nat → Fp} (hv : Sp n A v) (h : ∀ i, i < n → Sp m B (A i)) : Sp m B v := by
  obtain ⟨c, hc⟩ := hv
  have h' : ∀ i, ∃ d : Nat → Fp, i < n → ∀ k, A i k = S m (fun j => d j * B j k) := fun i => by
    by_cases hi : i < n
    · obtain ⟨d, hd⟩ := h i hi; exact ⟨d, fun _ => hd⟩
    · exact ⟨fun _ => 0, fun h => absurd h hi⟩
  have hd := fun i => Classical.choose_spec (h' i)
  generalize (fun i => Classical.choose (h' i)) = d at hd
  refine ⟨fun j => S n (fun i => c i * Classical.choose (h' i) j), fun k => ?_⟩
  rw [hc, S_congr (g := fun i => S m (fun j => c i * (Classical.choose (h' i) j * B j k))) (fun i hi => by rw [hd i hi k, S_mul]), S_swap]
  refine S_congr fun j _ => ?_
  rw [← S_mul']
  exact S_congr fun i _ => by grind

/-- THE SHAPE behind some columns: r rows have their 1 in the columns c, in which all other rows have 0; elsewhere only such rows have something whose columns came before. -/
structure El (n : Nat) (before : Nat → Nat → Prop) (A : Mx) (r : Nat) (c : Nat → Nat) (done : List Nat) : Prop where
  le : r ≤ n
  mem : ∀ i, i < r → c i ∈ done
  pv : ∀ i, i < r → ∀ a, a < n → A a (c i) = if a = i then 1 else 0
  np : ∀ k, k ∈ done → (∀ i, i < r → c i ≠ k) → ∀ i, i < n → A i k ≠ 0 → i < r ∧ before (c i) k
  ord : ∀ i j, i < j → j < r → before (c i) (c j)
theorem El.none {n r k : Nat} {before : Nat → Nat → Prop} {A : Mx} {c : Nat → Nat} {done : List Nat} (h : El n before A r c done) (hz : ∀ a, r ≤ a → a < n → A a k = 0) (hb : ∀ x, x ∈ done → before x k) : El n before A r c (done ++ [k]) := by
  refine ⟨h.le, fun i hi => List.mem_append_left _ (h.mem i hi), h.pv, fun j hj hn i hi hne => ?_, h.ord⟩
  rcases List.mem_append.1 hj with hj | hj
  · exact h.np j hj hn i hi hne
  · have e : j = k := by simpa using hj
    subst e
    by_cases hir : i < r
    · exact ⟨hir, hb _ (h.mem i hir)⟩
    · exact absurd (hz i (by omega) hi) hne
theorem El.some {n r k p : Nat} {before : Nat → Nat → Prop} {A : Mx} {c : Nat → Nat} {done : List Nat} (h : El n before A r c done) (hp : r ≤ p) (hpn : p < n) (hne : A p k ≠ 0) (_hnd : k ∉ done) (hb : ∀ x, x ∈ done → before x k) :
    El n before (clrF (swapF A p r) r k) (r + 1) (fun i => if i = r then k else c i) (done ++ [k]) := by
  have hrow : swapF A p r r k ≠ 0 := by unfold swapF; rw [if_pos rfl]; exact hne
  have hm := mul_inv hrow
  refine ⟨by omega, fun i hi => ?_, fun i hi a ha => ?_, fun j hj hn i hi hnz => ?_, fun i j hij hj => ?_⟩
  · show (if i = r then k else c i) ∈ _
    split
    · simp
    · exact List.mem_append_left _ (h.mem i (by omega))
  · show clrF (swapF A p r) r k a (if i = r then k else c i) = _
    by_cases e : i = r
    · subst e
      rw [if_pos rfl]
      unfold clrF
      by_cases e2 : a = i
      · rw [if_pos e2, if_pos e2, hm]
      · rw [if_neg e2, if_neg e2, hm]; grind
    · have hi' : i < r := by omega
      have z1 : A p (c i) = 0 := by rw [h.pv i hi' p hpn, if_neg (by omega)]
      have z2 : swapF A p r r (c i) = 0 := by unfold swapF; rw [if_pos rfl]; exact z1
      rw [if_neg e]
      unfold clrF
      rw [z2]
      by_cases e2 : a = r
      · rw [if_pos e2, if_neg (by omega)]; grind
      · rw [if_neg e2]
        have z3 : swapF A p r a (c i) = if a = i then 1 else 0 := by
          unfold swapF
          rw [if_neg e2]
          by_cases e3 : a = p
          · rw [if_pos e3, h.pv i hi' r (by omega), if_neg (by omega), if_neg (by omega)]
          · rw [if_neg e3]; exact h.pv i hi' a ha
        rw [z3]; grind
  · have hjk : j ≠ k := fun e => (hn r (by omega)) (by rw [if_pos rfl, e])
    have hjd : j ∈ done := by
      rcases List.mem_append.1 hj with hj | hj
      · exact hj
      · exact absurd (by simpa using hj) hjk
    have hn' : ∀ i, i < r → c i ≠ j := fun i hi => by have := hn i (by omega); rwa [if_neg (by omega)] at this
    have zr : ∀ a, r ≤ a → a < n → A a j = 0 := fun a h1 h2 => Classical.byContradiction fun hc => by have := (h.np j hjd hn' a h2 hc).1; omega
    have z2 : swapF A p r r j = 0 := by unfold swapF; rw [if_pos rfl]; exact zr p hp hpn
    unfold clrF at hnz
    rw [z2] at hnz
    by_cases e2 : i = r
    · rw [if_pos e2] at hnz; exact absurd (by grind) hnz
    · rw [if_neg e2] at hnz
      have hnz2 : swapF A p r i j ≠ 0 := fun e => hnz (by rw [e]; grind)
      unfold swapF at hnz2
      rw [if_neg e2] at hnz2
      by_cases e3 : i = p
      · rw [if_pos e3] at hnz2; exact absurd (zr r (Nat.le_refl _) (by omega)) hnz2
      · rw [if_neg e3] at hnz2
        have := h.np j hjd hn' i hi hnz2
        exact ⟨by omega, by rw [if_neg e2]; exact this.2⟩
  · show before (if i = r then k else c i) (if j = r then k else c j)
    rw [if_neg (by omega)]
    split
    · exact hb _ (h.mem i (by omega))
    · exact h.ord i j hij (by omega)
theorem sp_swap {n p r : Nat} (A : Mx) (hp : p < n) (hr : r < n) : ∀ a, a < n → Sp n A (swapF A p r a) := fun a ha => Sp.row A (by split; exact hp; split; exact hr; exact ha)
theorem swap_swap (A : Mx) (p r : Nat) : swapF (swapF A p r) p r = A := by
  funext a b
  unfold swapF
  by_cases h1 : a = r
  · subst h1
    rw [if_pos rfl]
    by_cases h2 : p = a
    · rw [if_pos h2, h2]
    · rw [if_neg h2, if_pos rfl]
  · rw [if_neg h1]
    by_cases h2 : a = p
    · subst h2; rw [if_pos rfl, if_pos rfl]
    · rw [if_neg h2, if_neg h1, if_neg h2]
theorem sp_clr {n r k : Nat} (A : Mx) (hr : r < n) : ∀ a, a < n → Sp n A (clrF A r k a) := fun a ha => by
  by_cases h : a = r
  · have e : clrF A r k a = fun b => inv (A r k) * A r b + 0 * A r b := by funext b; unfold clrF; rw [if_pos h]; grind
    rw [e]; exact (Sp.row A hr).add (Sp.row A hr) _ _
  · have e : clrF A r k a = fun b => 1 * A a b + (- (A a k * inv (A r k))) * A r b := by funext b; unfold clrF; rw [if_neg h]; grind
    rw [e]; exact (Sp.row A ha).add (Sp.row A hr) _ _
theorem sp_unclr {n r k : Nat} (A : Mx) (hr : r < n) (hne : A r k ≠ 0) : ∀ a, a < n → Sp n (clrF A r k) (A a) := fun a ha => by
  have hm := mul_inv hne
  by_cases h : a = r
  · have e : A a = fun b => A r k * clrF A r k r b + 0 * clrF A r k r b := by funext b; unfold clrF; rw [if_pos rfl, h]; grind
    rw [e]; exact (Sp.row _ hr).add (Sp.row _ hr) _ _
  · have e : A a = fun b => 1 * clrF A r k a b + A a k * clrF A r k r b := by funext b; unfold clrF; rw [if_neg h, if_pos rfl]; grind
    rw [e]; exact (Sp.row _ ha).add (Sp.row _ hr) _ _
theorem alt_swap {n p r : Nat} {f : Mx → Fp} (hf : Alt n f) (A : Mx) (hp : p < n) (hr : r < n) : f (swapF A p r) = (if p = r then 1 else -1) * f A := by
  by_cases e : p = r
  · subst e
    rw [if_pos rfl, show swapF A p p = A from by funext a b; unfold swapF; split; rename_i h; rw [h]; rfl]; grind
  · rw [if_neg e, show swapF A p r = upd (upd A p (A r)) r (A p) from by funext a b; unfold swapF upd; split; rfl; split; rfl; rfl, hf.swap A hp hr e]; grind
theorem alt_clr {n r k : Nat} {f : Mx → Fp} (hf : Alt n f) (A : Mx) (hr : r < n) (hne : A r k ≠ 0) : A r k * f (clrF A r k) = f A := by
  have hm := mul_inv hne
  have h1 := hf.scale A r (inv (A r k)) hr
  have h2 := hf.clear (upd A r (fun b => inv (A r k) * A r b)) (fun i => - A i k) hr n (Nat.le_refl _)
  have e : f (clrF A r k) = f (fun i b => if i ≠ r ∧ i < n then upd A r (fun b => inv (A r k) * A r b) i b + - A i k * upd A r (fun b => inv (A r k) * A r b) r b else upd A r (fun b => inv (A r k) * A r b) i b) := by
    refine hf.congr _ _ fun a b ha _ => ?_
    unfold clrF upd
    by_cases h : a = r
    · simp only [h, if_true, ne_eq, not_true_eq_false, false_and, if_false]; grind
    · simp only [h, if_true, if_false, ne_eq, not_false_eq_true, true_and, ha]; grind
  rw [e, h2, h1]; grind

/-- WHAT AN ELIMINATION KEEPS. -/
structure Run (n m : Nat) (before : Nat → Nat → Prop) (A : Mx) (s : Sys) (done : List Nat) : Prop where
  ok : okM s.rows n m
  rowsOf : ∀ (i : Nat) (p : Nat × Nat), s.piv[i]? = some p → p.1 = i
  el : El n before (G s.rows) s.piv.length (fun i => (s.piv.getD i (0, 0)).2) done
  into : ∀ a, a < n → Sp n A (G s.rows a)
  back : ∀ a, a < n → Sp n (G s.rows) (A a)
  det : ∀ f, Alt n f → f A = toF s.det * (if s.turned then -1 else 1) * f (G s.rows)
  ne : toF s.det ≠ 0
  bd : 0 ≤ s.det ∧ s.det < 65521
theorem findP_spec (rs : List (List Int)) (k : Nat) : ∀ (f i : Nat), match findP rs k f i with
    | none => ∀ j, i ≤ j → j < i + f → gM rs j k = 0
    | some p => i ≤ p ∧ p < i + f ∧ gM rs p k ≠ 0
  | 0, i => by simp only [findP]; intro j h1 h2; omega
  | f + 1, i => by
    rw [findP]
    by_cases h : gM rs i k = 0
    · rw [if_pos h]
      have := findP_spec rs k f (i + 1)
      revert this
      split
      · intro h2 j h3 h4
        by_cases e : j = i
        · rw [e, h]
        · exact h2 j (by omega) (by omega)
      · rintro ⟨h2, h3, h4⟩; exact ⟨by omega, by omega, h4⟩
    · rw [if_neg h]; exact ⟨Nat.le_refl _, by omega, h⟩
theorem Run.step {n m k : Nat} {before : Nat → Nat → Prop} {A : Mx} {s : Sys} {done : List Nat} (h : Run n m before A s done) (hb : ∀ x, x ∈ done → before x k) (hk : k ∉ done) : Run n m before A (stepS s k) (done ++ [k]) := by
  have hsp := findP_spec s.rows k (s.rows.length - s.piv.length) s.piv.length
  have hle := h.el.le
  rw [h.ok.1] at hsp
  unfold stepS
  rw [h.ok.1]
  cases hf : findP s.rows k (n - s.piv.length) s.piv.length with
  | none =>
    rw [hf] at hsp
    exact ⟨h.ok, h.rowsOf, h.el.none (fun a h1 h2 => by show toF _ = 0; rw [hsp a h1 (by omega), toF_zero]) hb, h.into, h.back, h.det, h.ne, h.bd⟩
  | some p =>
    rw [hf] at hsp
    obtain ⟨h1, h2, h3⟩ := hsp
    have hpn : p < n := by omega
    have hrn : s.piv.length < n := by omega
    have hG : G (pivS s k p).rows = clrF (swapF (G s.rows) p s.piv.length) s.piv.length k := by
      show G (clearM (swapM s.rows p s.piv.length) s.piv.length k) = _
      rw [G_clear (okM_swap h.ok hpn hrn) hrn, G_swap (by rw [h.ok.1]; exact hpn) (by rw [h.ok.1]; exact hrn)]
    have hpk : swapF (G s.rows) p s.piv.length s.piv.length k = G s.rows p k := by unfold swapF; rw [if_pos rfl]
    have hne : G s.rows p k ≠ 0 := fun e => h3 ((toF_eq_zero (h.ok.num p k)).1 e)
    have hne2 : swapF (G s.rows) p s.piv.length s.piv.length k ≠ 0 := by rw [hpk]; exact hne
    have hdet : toF (pivS s k p).det = toF s.det * G s.rows p k := by
      show toF (s.det * gM (swapM s.rows p s.piv.length) s.piv.length k % 65521) = _
      rw [toF_emod, toF_mul]
      show _ * G (swapM s.rows p s.piv.length) s.piv.length k = _
      rw [G_swap (by rw [h.ok.1]; exact hpn) (by rw [h.ok.1]; exact hrn), hpk]
    have hlen : (pivS s k p).piv.length = s.piv.length + 1 := by simp [pivS]
    refine ⟨okM_clear (okM_swap h.ok hpn hrn) hrn, fun i q hq => ?_, ?_, fun a ha => ?_, fun a ha => ?_, fun f hA => ?_, ?_, ?_⟩
    · simp only [pivS] at hq
      by_cases hi : i < s.piv.length
      · rw [List.getElem?_append_left hi] at hq; exact h.rowsOf i q hq
      · have hlt := (List.getElem?_eq_some_iff.1 hq).1
        have e : i = s.piv.length := by simp at hlt; omega
        subst e
        rw [List.getElem?_append_right (Nat.le_refl _), Nat.sub_self] at hq
        cases hq; rfl
    · rw [hG, hlen]
      have hc : (fun i => ((pivS s k p).piv.getD i (0, 0)).2) = fun i => if i = s.piv.length then k else if i < s.piv.length then (s.piv.getD i (0, 0)).2 else 0 := by
        funext i
        simp only [pivS]
        rw [List.getD_eq_getElem?_getD, List.getD_eq_getElem?_getD]
        by_cases h4 : i < s.piv.length
        · rw [List.getElem?_append_left h4, if_neg (by omega), if_pos h4]
        · by_cases h5 : i = s.piv.length
          · subst h5; rw [List.getElem?_append_right (Nat.le_refl _), Nat.sub_self, if_pos rfl]; rfl
          · rw [if_neg h5, if_neg h4, List.getElem?_eq_none (by simp; omega)]; rfl
      have he := h.el.some h1 hpn hne hk hb
      rw [hc]
      refine ⟨he.le, fun i hi => ?_, fun i hi a ha => ?_, fun j hj hn i hi hnz => ?_, fun i j hij hj => ?_⟩
      · have := he.mem i hi
        by_cases e : i = s.piv.length
        · simp [e]
        · have hi' : i < s.piv.length := by omega
          simpa [e, hi'] using this
      · have := he.pv i hi a ha
        by_cases e : i = s.piv.length
        · simpa [e] using this
        · have hi' : i < s.piv.length := by omega
          simpa [e, hi'] using this
      · have := he.np j hj (fun i hi => by
          have := hn i hi
          by_cases e : i = s.piv.length
          · simpa [e] using this
          · have hi' : i < s.piv.length := by omega
            simpa [e, hi'] using this) i hi hnz
        refine ⟨this.1, ?_⟩
        have h2 := this.2
        by_cases e : i = s.piv.length
        · simpa [e] using h2
        · have hi' : i < s.piv.length := by omega
          simpa [e, hi'] using h2
      · have := he.ord i j hij hj
        have hi' : i < s.piv.length := by omega
        have hi2 : i ≠ s.piv.length := by omega
        by_cases e : j = s.piv.length
        · simpa [e, hi', hi2] using this
        · have hj' : j < s.piv.length := by omega
          simpa [e, hj', hi', hi2] using this
    · rw [hG]
      exact ((sp_clr _ hrn a ha).trans (sp_swap _ hpn hrn)).trans h.into
    · rw [hG]
      refine (h.back a ha).trans fun i hi => ?_
      have := sp_swap (swapF (G s.rows) p s.piv.length) hpn hrn i hi
      rw [swap_swap] at this
      exact this.trans (sp_unclr _ hrn hne2)
    · rw [h.det f hA, hdet, hG]
      have e1 := alt_swap hA (G s.rows) hpn hrn
      have e2 := alt_clr hA (swapF (G s.rows) p s.piv.length) hrn hne2
      rw [hpk] at e2
      have e3 : (if (pivS s k p).turned = true then (-1 : Fp) else 1) = (if s.turned = true then -1 else 1) * (if p = s.piv.length then 1 else -1) := by
        have e5 : (pivS s k p).turned = if p = s.piv.length then s.turned else !s.turned := rfl
        rw [e5]
        by_cases h4 : p = s.piv.length
        · simp only [h4, if_true]; grind
        · simp only [h4, if_false]; cases s.turned <;> decide
      have e4 : f (G s.rows) = (if p = s.piv.length then (1 : Fp) else -1) * f (swapF (G s.rows) p s.piv.length) := by
        rw [e1]; split <;> grind
      rw [e3, e4, ← e2]; grind
    · rw [hdet]
      intro e
      rcases mul_zero_cases e with e | e
      · exact h.ne e
      · exact hne e
    · exact ⟨Int.emod_nonneg _ (by decide), Int.emod_lt_of_pos _ (by decide)⟩
theorem Run.fold {n m : Nat} {before : Nat → Nat → Prop} {A : Mx} : ∀ (todo done : List Nat) (s : Sys), Run n m before A s done → (done ++ todo).Pairwise (fun x y => before x y ∧ x ≠ y) → Run n m before A (todo.foldl stepS s) (done ++ todo)
  | [], done, s, h, _ => by rw [List.append_nil]; exact h
  | k :: todo, done, s, h, hp => by
    have h2 := List.pairwise_append.1 hp
    have e : done ++ k :: todo = (done ++ [k]) ++ todo := by simp
    rw [e] at hp ⊢
    exact Run.fold todo (done ++ [k]) _ (h.step (fun x hx => (h2.2.2 x hx k List.mem_cons_self).1) (fun hx => (h2.2.2 k hx k List.mem_cons_self).2 rfl)) hp
theorem Run.start {rs : List (List Int)} {n m : Nat} (h : okM rs n m) (before : Nat → Nat → Prop) : Run n m before (G rs) ⟨rs, [], 1, false⟩ [] := by
  refine ⟨h, fun i p hp => by simp at hp, ⟨by simp, fun i hi => by simp at hi, fun i hi => by simp at hi, fun k hk => by simp at hk, fun i j _ hj => by simp at hj⟩, fun a ha => Sp.row _ ha, fun a ha => Sp.row _ ha, fun f _ => ?_, one_ne_zero, (by decide : (0 : Int) ≤ 1 ∧ (1 : Int) < 65521)⟩
  show f (G rs) = toF 1 * (if false = true then -1 else 1) * f (G rs)
  rw [toF_one, if_neg (by decide)]; grind
theorem solveS_run {rs : List (List Int)} {n m : Nat} (h : okM rs n m) {before : Nat → Nat → Prop} {cols : List Nat} (hp : cols.Pairwise (fun x y => before x y ∧ x ≠ y)) : Run n m before (G rs) (solveS rs cols false) cols := by
  have := Run.fold cols [] _ (Run.start h before) (by simpa using hp)
  simpa [solveS] using this
end Go.Proofs.YtfljkcmijnhgkaaDoor

namespace Go.Proofs.YtfljkcmijnhgkaaDoor
theorem G_out {rs : List (List Int)} {n m : Nat} (h : okM rs n m) (a : Nat) {k : Nat} (hk : m ≤ k) : G rs a k = 0 := by
  unfold G gM
  by_cases ha : a < n
  · rw [getD_none (by rw [h.row ha]; exact hk)]; rfl
  · rw [List.getD_eq_getElem?_getD (l := rs), List.getElem?_eq_none (by rw [h.1]; omega)]; rfl
theorem Run.zero {n m : Nat} {before : Nat → Nat → Prop} {A : Mx} {s : Sys} {done : List Nat} (h : Run n m before A s done) {a k : Nat} (ha : s.piv.length ≤ a) (han : a < n) (hk : k ∈ done ∨ m ≤ k) : G s.rows a k = 0 := by
  rcases hk with hk | hk
  · by_cases hp : ∃ i, i < s.piv.length ∧ (s.piv.getD i (0, 0)).2 = k
    · obtain ⟨i, hi, rfl⟩ := hp
      rw [h.el.pv i hi a han, if_neg (by omega)]
    · refine Classical.byContradiction fun hne => ?_
      have := (h.el.np k hk (fun i hi e => hp ⟨i, hi, e⟩) a han hne).1
      omega
  · exact G_out h.ok a hk
theorem pair_lt (m : Nat) : (List.range m).Pairwise (fun x y => x < y ∧ x ≠ y) := List.Pairwise.imp (fun h => ⟨h, by omega⟩) List.pairwise_lt_range
theorem pair_gt (m : Nat) : (List.range m).reverse.Pairwise (fun x y => y < x ∧ x ≠ y) := List.pairwise_reverse.2 (List.Pairwise.imp (fun h => ⟨h, by omega⟩) List.pairwise_lt_range)
theorem inc_id {n : Nat} {c : Nat → Nat} (hlt : ∀ i, i < n → c i < n) (hinc : ∀ i j, i < j → j < n → c i < c j) : ∀ i, i < n → c i = i := by
  have h1 : ∀ i, i < n → i ≤ c i := fun i => by
    induction i with
    | zero => intro _; omega
    | succ i ih => intro h; have := ih (by omega); have := hinc i (i + 1) (by omega) h; omega
  have h2 : ∀ d, d < n → c (n - 1 - d) ≤ n - 1 - d := fun d => by
    induction d with
    | zero => intro h; have := hlt (n - 1) (by omega); simp only [Nat.sub_zero]; omega
    | succ d ih => intro h; have := ih (by omega); have := hinc (n - 1 - (d + 1)) (n - 1 - d) (by omega) (by omega); omega
  intro i hi
  have := h1 i hi
  have := h2 (n - 1 - i) (by omega)
  rw [show n - 1 - (n - 1 - i) = i by omega] at this
  omega
theorem Run.full {n m : Nat} {A : Mx} {s : Sys} (h : Run n m (fun x y => x < y) A s (List.range n)) (hr : s.piv.length = n) : ∀ i k, i < n → k < n → G s.rows i k = one i k := fun i k hi hk => by
  have hc := inc_id (n := n) (c := fun i => (s.piv.getD i (0, 0)).2) (fun i hi => by have := h.el.mem i (by omega); simpa using this) (fun i j hij hj => h.el.ord i j hij (by omega))
  have := h.el.pv k (by omega) i hi
  simp only [hc k hk] at this
  rw [this]; rfl
theorem alt_det {rs : List (List Int)} {n : Nat} (h : okM rs n n) {f : Mx → Fp} (hf : Alt n f) : f (G rs) = toF (detM rs) * f one := by
  have hR := solveS_run h (pair_lt n)
  have hle := hR.el.le
  rw [hR.det f hf]
  unfold detM
  rw [h.1]
  simp only []
  by_cases hr : (solveS rs (List.range n) false).piv.length < n
  · rw [if_pos hr, toF_zero, hf.zero (G (solveS rs (List.range n) false).rows) (i := n - 1) (by omega) (fun k hk => hR.zero (by omega) (by omega) (.inl (by simpa using hk)))]; grind
  · rw [if_neg hr, hf.congr _ _ (hR.full (by omega))]
    by_cases ht : (solveS rs (List.range n) false).turned = true
    · rw [if_pos ht, if_pos ht, toF_emod, toF_sub, toF_p]; grind
    · rw [if_neg ht, if_neg ht]; grind
theorem detM_eq {rs : List (List Int)} {n : Nat} (h : okM rs n n) : toF (detM rs) = D n (G rs) := by
  rw [alt_det h (D_alt n), D_one_]; grind
/-- A list of lists for a matrix. -/
def listM (A : Mx) (n m : Nat) : List (List Int) := mat (fun i k => ((A i k).val : Int)) n m
theorem toF_val_ (a : Fp) : toF (a.val : Int) = a := fp_ext (by rw [toF_val]; have := a.isLt; omega)
theorem okM_listM (A : Mx) (n m : Nat) : okM (listM A n m) n m := okM_mat _ _ _ fun i k _ _ => by have := (A i k).isLt; omega
theorem G_listM (A : Mx) {n m i k : Nat} (hi : i < n) (hk : k < m) : G (listM A n m) i k = A i k := by rw [G, listM, gM_mat _ hi hk, toF_val_]
theorem Alt.eq {n : Nat} {f : Mx → Fp} (hf : Alt n f) (A : Mx) : f A = D n A * f one := by
  have e : ∀ i k, i < n → k < n → A i k = G (listM A n n) i k := fun i k hi hk => (G_listM A hi hk).symm
  rw [hf.congr A _ e, alt_det (okM_listM A n n) hf, detM_eq (okM_listM A n n), ← D_congr n A _ e]
def mul (n : Nat) (A B : Mx) : Mx := fun i k => S n (fun j => A i j * B j k)
end Go.Proofs.YtfljkcmijnhgkaaDoor

namespace Go.Proofs.YtfljkcmijnhgkaaDoor
/-- y solves the system whose right side is column m. -/
def SolA (n m : Nat) (A : Mx) (y : Nat → Fp) : Prop := ∀ i, i < n → S m (fun k => A i k * y k) = A i m
theorem Sp.sol {n m : Nat} {A : Mx} {v y : Nat → Fp} (hv : Sp n A v) (hy : SolA n m A y) : S m (fun k => v k * y k) = v m := by
  obtain ⟨c, hc⟩ := hv
  rw [hc m, S_congr (g := fun k => S n (fun i => c i * (A i k * y k))) (fun k _ => by rw [hc k, ← S_mul']; exact S_congr fun i _ => by grind), S_swap]
  refine S_congr fun i hi => ?_
  rw [S_mul, hy i hi]
theorem Run.sol {n m M : Nat} {before : Nat → Nat → Prop} {A : Mx} {s : Sys} {done : List Nat} (h : Run n M before A s done) (y : Nat → Fp) : SolA n m A y ↔ SolA n m (G s.rows) y :=
  ⟨fun hy i hi => (h.into i hi).sol hy, fun hy i hi => (h.back i hi).sol hy⟩
theorem fill_other {f : Nat × Nat → Int} {k : Nat} : ∀ (l : List (Nat × Nat)) (x : List Int), (∀ p ∈ l, p.2 ≠ k) → (l.foldl (fun x p => x.set p.2 (f p)) x).getD k 0 = x.getD k 0
  | [], _, _ => rfl
  | p :: l, x, h => by
    rw [List.foldl_cons, fill_other l _ (fun q hq => h q (List.mem_cons_of_mem _ hq)), getD_set, if_neg (fun e => h p List.mem_cons_self e.1.symm)]
theorem fill_len {f : Nat × Nat → Int} : ∀ (l : List (Nat × Nat)) (x : List Int), (l.foldl (fun x p => x.set p.2 (f p)) x).length = x.length
  | [], _ => rfl
  | p :: l, x => by rw [List.foldl_cons, fill_len l]; simp
theorem fillX_length (s : Sys) (m : Nat) : (fillX s m).length = m := by rw [fillX, fill_len]; simp
theorem Run.col_ne {n m : Nat} {before : Nat → Nat → Prop} {A : Mx} {s : Sys} {done : List Nat} (h : Run n m before A s done) {i j : Nat} (hi : i < s.piv.length) (hj : j < s.piv.length) (hij : i ≠ j) : (s.piv.getD i (0, 0)).2 ≠ (s.piv.getD j (0, 0)).2 := fun e => by
  have h1 := h.el.pv i hi i (by have := h.el.le; omega)
  have h2 := h.el.pv j hj i (by have := h.el.le; omega)
  rw [if_pos rfl] at h1
  rw [if_neg hij, ← e, h1] at h2
  exact one_ne_zero h2
theorem Run.fill_at {n M m : Nat} {before : Nat → Nat → Prop} {A : Mx} {s : Sys} {done : List Nat} (h : Run n M before A s done) {i : Nat} (hi : i < s.piv.length) (hc : (s.piv.getD i (0, 0)).2 < m) : (fillX s m).getD ((s.piv.getD i (0, 0)).2) 0 = gM s.rows i m := by
  have e : s.piv = s.piv.take i ++ s.piv[i] :: s.piv.drop (i + 1) := by rw [List.getElem_cons_drop, List.take_append_drop]
  have hg : s.piv.getD i (0, 0) = s.piv[i] := by rw [List.getD_eq_getElem?_getD, List.getElem?_eq_getElem hi]; rfl
  have h1 : (s.piv[i]).1 = i := h.rowsOf i _ (List.getElem?_eq_getElem hi)
  have hne : ∀ p ∈ s.piv.drop (i + 1), p.2 ≠ (s.piv[i]).2 := fun p hp => by
    obtain ⟨j, hj, rfl⟩ := List.getElem_of_mem hp
    rw [List.length_drop] at hj
    have := h.col_ne (i := i + 1 + j) (j := i) (by omega) hi (by omega)
    rw [hg, List.getD_eq_getElem?_getD, List.getElem?_eq_getElem (by omega)] at this
    rw [List.getElem_drop]; exact this
  rw [hg] at hc ⊢
  have e2 : fillX s m = (s.piv.take i ++ s.piv[i] :: s.piv.drop (i + 1)).foldl (fun x p => x.set p.2 (gM s.rows p.1 m)) (List.replicate m 0) := by rw [← e]; rfl
  rw [e2, List.foldl_append, List.foldl_cons, fill_other _ _ hne, getD_set, if_pos ⟨rfl, by rw [fill_len]; simpa using hc⟩, h1]
theorem Run.fill_no {n M m : Nat} {before : Nat → Nat → Prop} {A : Mx} {s : Sys} {done : List Nat} (_h : Run n M before A s done) {k : Nat} (hk : ∀ i, i < s.piv.length → (s.piv.getD i (0, 0)).2 ≠ k) : (fillX s m).getD k 0 = 0 := by
  rw [fillX, fill_other]
  · rw [List.getD_eq_getElem?_getD, List.getElem?_replicate]; split <;> rfl
  · intro p hp
    obtain ⟨i, hi, rfl⟩ := List.getElem_of_mem hp
    have := hk i hi
    rwa [List.getD_eq_getElem?_getD, List.getElem?_eq_getElem hi] at this
theorem gM_aug {rs : List (List Int)} {b : List Int} {n m : Nat} (h : okM rs n m) (i : Nat) (hi : i < n) (k : Nat) : gM (augM rs b) i k = if k < m then gM rs i k else if k = m then b.getD i 0 else 0 := by
  have e : (augM rs b).getD i [] = rs.getD i [] ++ [b.getD i 0] := by
    rw [augM, List.getD_eq_getElem?_getD, List.getElem?_map, List.getElem?_range (by rw [h.1]; exact hi)]; rfl
  unfold gM
  rw [e, List.getD_eq_getElem?_getD, List.getElem?_append, h.row hi]
  by_cases hk : k < m
  · rw [if_pos hk, if_pos hk, ← List.getD_eq_getElem?_getD]
  · rw [if_neg hk, if_neg hk]
    by_cases e : k = m
    · subst e; rw [Nat.sub_self, if_pos rfl]; rfl
    · rw [if_neg e, List.getElem?_eq_none (by simp; omega)]; rfl
/-- y solves a system of lists. -/
def SolL (rs : List (List Int)) (b : List Int) (n m : Nat) (y : Nat → Fp) : Prop := ∀ i, i < n → S m (fun k => G rs i k * y k) = toF (b.getD i 0)
theorem SolL_iff {rs : List (List Int)} {b : List Int} {n m : Nat} (h : okM rs n m) (y : Nat → Fp) : SolL rs b n m y ↔ SolA n m (G (augM rs b)) y := by
  have e1 : ∀ i k, i < n → k < m → G (augM rs b) i k = G rs i k := fun i k hi hk => by unfold G; rw [gM_aug h i hi, if_pos hk]
  have e2 : ∀ i, i < n → G (augM rs b) i m = toF (b.getD i 0) := fun i hi => by unfold G; rw [gM_aug h i hi, if_neg (Nat.lt_irrefl m), if_pos rfl]
  exact ⟨fun hy i hi => by rw [e2 i hi, ← hy i hi]; exact S_congr fun k hk => by rw [e1 i k hi hk], fun hy i hi => by rw [← e2 i hi, ← hy i hi]; exact S_congr fun k hk => by rw [e1 i k hi hk]⟩
theorem sysM_run {rs : List (List Int)} {b : List Int} {n m : Nat} (h : okM rs n m) (hb : ∀ x ∈ b, 0 ≤ x ∧ x < 65521) (hl : b.length = n) : Run n (m + 1) (fun x y => y < x) (G (augM rs b)) (sysM rs b m) (List.range m).reverse :=
  solveS_run (okM_aug h hb hl) (pair_gt m)
theorem restOk_iff {s : Sys} {m : Nat} : restOk s m = true ↔ ∀ i, s.piv.length ≤ i → i < s.rows.length → gM s.rows i m = 0 := by
  unfold restOk
  rw [List.all_eq_true]
  constructor
  · intro h i h1 h2
    have := h i (List.mem_range.2 h2)
    simp only [Bool.or_eq_true, decide_eq_true_eq, beq_iff_eq] at this
    rcases this with h3 | h3
    · omega
    · exact h3
  · intro h i hi
    simp only [Bool.or_eq_true, decide_eq_true_eq, beq_iff_eq]
    by_cases h1 : i < s.piv.length
    · exact .inl h1
    · exact .inr (h i (by omega) (List.mem_range.1 hi))
variable {rs : List (List Int)} {b : List Int} {n m : Nat}
theorem zero_row (h : Run n (m + 1) (fun x y => y < x) (G (augM rs b)) (sysM rs b m) (List.range m).reverse) {i : Nat} (h1 : (sysM rs b m).piv.length ≤ i) (h2 : i < n) (y : Nat → Fp) : S m (fun k => G (sysM rs b m).rows i k * y k) = 0 :=
  S_zero fun k hk => by rw [h.zero h1 h2 (.inl (by simpa using hk))]; grind
/-- Where there is a solution, one is found. -/
theorem solvedM_complete (h : okM rs n m) (hb : ∀ x ∈ b, 0 ≤ x ∧ x < 65521) (hl : b.length = n) {y : Nat → Fp} (hy : SolL rs b n m y) : solvedM rs b m = some (fillX (sysM rs b m) m) := by
  have hR := sysM_run h hb hl
  have hs := (hR.sol _).1 ((SolL_iff h y).1 hy)
  rw [solvedM, if_pos]
  refine restOk_iff.2 fun i h1 h2 => ?_
  rw [hR.ok.1] at h2
  have e := hs i h2
  rw [zero_row hR h1 h2] at e
  exact (toF_eq_zero (hR.ok.num i m)).1 e.symm
/-- What is found solves. -/
theorem solvedM_sound (h : okM rs n m) (hb : ∀ x ∈ b, 0 ≤ x ∧ x < 65521) (hl : b.length = n) {x : List Int} (hx : solvedM rs b m = some x) : x.length = m ∧ (∀ u ∈ x, 0 ≤ u ∧ u < 65521) ∧ SolL rs b n m (fun k => toF (x.getD k 0)) := by
  have hR := sysM_run h hb hl
  have hlt : ∀ i, i < (sysM rs b m).piv.length → ((sysM rs b m).piv.getD i (0, 0)).2 < m := fun i hi => by have := hR.el.mem i hi; simpa using this
  rw [solvedM] at hx
  split at hx
  · rename_i hr
    obtain rfl := Option.some.inj hx
    refine ⟨fillX_length _ _, fun u hu => ?_, (SolL_iff h _).2 ((hR.sol _).2 fun i hi => ?_)⟩
    · obtain ⟨k, hk, rfl⟩ := List.getElem_of_mem hu
      have e : (fillX (sysM rs b m) m)[k] = (fillX (sysM rs b m) m).getD k 0 := by rw [List.getD_eq_getElem?_getD, List.getElem?_eq_getElem hk]; rfl
      rw [e]
      by_cases hp : ∃ i, i < (sysM rs b m).piv.length ∧ ((sysM rs b m).piv.getD i (0, 0)).2 = k
      · obtain ⟨i, hi, rfl⟩ := hp
        rw [hR.fill_at hi (hlt i hi)]; exact hR.ok.num i m
      · rw [hR.fill_no (fun i hi e => hp ⟨i, hi, e⟩)]; decide
    · by_cases hir : i < (sysM rs b m).piv.length
      · rw [S_one (k := ((sysM rs b m).piv.getD i (0, 0)).2) (hlt i hir), hR.el.pv i hir i hi, if_pos rfl, hR.fill_at hir (hlt i hir)]
        · show 1 * G _ _ _ = _; grind
        · intro k hk hne
          by_cases hp : ∃ j, j < (sysM rs b m).piv.length ∧ ((sysM rs b m).piv.getD j (0, 0)).2 = k
          · obtain ⟨j, hj, rfl⟩ := hp
            rw [hR.el.pv j hj i hi, if_neg (fun e => hne (by rw [e]))]; grind
          · rw [hR.fill_no (fun i hi e => hp ⟨i, hi, e⟩), toF_zero]; grind
      · rw [zero_row hR (by omega) hi]
        show 0 = toF _
        rw [restOk_iff.1 hr i (by omega) (by rw [hR.ok.1]; exact hi)]; rfl
  · cases hx
/-- It is the first one. -/
theorem solvedM_first (h : okM rs n m) (hb : ∀ x ∈ b, 0 ≤ x ∧ x < 65521) (hl : b.length = n) {x : List Int} (hx : solvedM rs b m = some x) {y : Nat → Fp} (hy : SolL rs b n m y) {j : Nat} (hj : j < m) (hlt : ∀ k, k < j → y k = toF (x.getD k 0)) (hne : y j ≠ toF (x.getD j 0)) : toF (x.getD j 0) = 0 := by
  have hR := sysM_run h hb hl
  have hlt2 : ∀ i, i < (sysM rs b m).piv.length → ((sysM rs b m).piv.getD i (0, 0)).2 < m := fun i hi => by have := hR.el.mem i hi; simpa using this
  have hsx := (hR.sol _).1 ((SolL_iff h _).1 (solvedM_sound h hb hl hx).2.2)
  have hsy := (hR.sol _).1 ((SolL_iff h _).1 hy)
  rw [solvedM_complete h hb hl hy] at hx
  obtain rfl := Option.some.inj hx
  by_cases hp : ∃ i, i < (sysM rs b m).piv.length ∧ ((sysM rs b m).piv.getD i (0, 0)).2 = j
  · obtain ⟨i, hi, rfl⟩ := hp
    have hin : i < n := by have := hR.el.le; omega
    refine absurd ?_ hne
    have e1 := hsx i hin
    have e2 := hsy i hin
    have e3 : S m (fun k => G (sysM rs b m).rows i k * (y k - toF ((fillX (sysM rs b m) m).getD k 0))) = 0 := by
      rw [S_congr (g := fun k => G (sysM rs b m).rows i k * y k - G (sysM rs b m).rows i k * toF ((fillX (sysM rs b m) m).getD k 0)) (fun k _ => by grind), S_sub, e1, e2]; grind
    rw [S_one (k := ((sysM rs b m).piv.getD i (0, 0)).2) hj, hR.el.pv i hi i hin, if_pos rfl] at e3
    · grind
    · intro k hk hkne
      by_cases hkj : k < ((sysM rs b m).piv.getD i (0, 0)).2
      · rw [hlt k hkj]; grind
      · have hz : G (sysM rs b m).rows i k = 0 := by
          by_cases hp2 : ∃ q, q < (sysM rs b m).piv.length ∧ ((sysM rs b m).piv.getD q (0, 0)).2 = k
          · obtain ⟨q, hq, rfl⟩ := hp2
            rw [hR.el.pv q hq i hin, if_neg (fun e => hkne (by rw [e]))]
          · refine Classical.byContradiction fun hc => ?_
            have := (hR.el.np k (by simpa using hk) (fun q hq e => hp2 ⟨q, hq, e⟩) i hin hc).2
            omega
        rw [hz]; grind
  · rw [hR.fill_no (fun i hi e => hp ⟨i, hi, e⟩), toF_zero]
end Go.Proofs.YtfljkcmijnhgkaaDoor
