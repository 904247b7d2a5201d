/- Functions that are polynomials: what they are at many places tells their coefficients. Faddeev and Le Verrier: how the coefficients of the determinant of x - A are made; Cayley and Hamilton. -/
import Derived.Test.YtfljkcmijnhgkaaDoorKy
namespace Go.Proofs.YtfljkcmijnhgkaaDoor

/-- Powers. -/
def pw (x : Fp) : Nat → Fp
  | 0 => 1
  | n + 1 => pw x n * x
theorem pw_add (x : Fp) (a b : Nat) : pw x (a + b) = pw x a * pw x b := by
  induction b with
  | zero => simp only [pw, Nat.add_zero]; grind
  | succ b ih => rw [← Nat.add_assoc, pw, pw, ih]; grind
theorem pw_mul (x y : Fp) (a : Nat) : pw (x * y) a = pw x a * pw y a := by
  induction a with
  | zero => simp only [pw]; grind
  | succ a ih => rw [pw, pw, pw, ih]; grind
theorem pw_one (a : Nat) : pw 1 a = 1 := by
  induction a with
  | zero => rfl
  | succ a ih => rw [pw, ih]; grind
/-- A polynomial with d coefficients. -/
def ev (d : Nat) (a : Nat → Fp) (x : Fp) : Fp := S d (fun j => a j * pw x j)
theorem ev_zero (d : Nat) (x : Fp) : ev d (fun _ => 0) x = 0 := S_zero fun j _ => by grind
def Poly (d : Nat) (f : Fp → Fp) : Prop := ∃ a : Nat → Fp, ∀ x, f x = ev d a x
/-- What is left when a root is taken out. -/
def quo (r : Fp) (d : Nat) (a : Nat → Fp) (j : Nat) : Fp := S (d - j) (fun t => a (j + 1 + t) * pw r t)
theorem quo_step (r : Fp) {d j : Nat} (a : Nat → Fp) (h : j < d) : quo r d a j = a (j + 1) + r * quo r d a (j + 1) := by
  unfold quo
  obtain ⟨e, rfl⟩ := Nat.exists_eq_add_of_lt h
  rw [show j + e + 1 - j = e + 1 by omega, S_first, show j + e + 1 - (j + 1) = e by omega, ← S_mul]
  rw [S_congr (g := fun i => r * (a (j + 1 + 1 + i) * pw r i)) (fun i _ => by rw [show j + 1 + (i + 1) = j + 1 + 1 + i by omega, pw]; grind)]
  simp only [pw, Nat.add_zero]; grind
theorem quo_end (r : Fp) (d : Nat) (a : Nat → Fp) : quo r d a d = 0 := by unfold quo; rw [Nat.sub_self]; rfl
theorem ev_first (d : Nat) (a : Nat → Fp) (x : Fp) : ev (d + 1) a x = a 0 + x * ev d (fun j => a (j + 1)) x := by
  unfold ev
  rw [S_first, ← S_mul, S_congr (g := fun i => x * (a (i + 1) * pw x i)) (fun i _ => by rw [pw]; grind)]
  simp only [pw]; grind
theorem ev_quo (r : Fp) (d : Nat) (a : Nat → Fp) (x : Fp) : ev (d + 1) a x = a 0 + r * quo r d a 0 + (x - r) * ev d (quo r d a) x := by
  have h1 : ev d (fun j => a (j + 1)) x = ev d (quo r d a) x - r * ev d (fun j => quo r d a (j + 1)) x := by
    unfold ev
    rw [← S_mul, ← S_sub]
    refine S_congr fun j hj => ?_
    rw [quo_step r a hj]; grind
  have h2 : ev (d + 1) (quo r d a) x = quo r d a 0 + x * ev d (fun j => quo r d a (j + 1)) x := ev_first _ _ _
  have h3 : ev (d + 1) (quo r d a) x = ev d (quo r d a) x := by
    unfold ev; rw [S, quo_end]; grind
  rw [ev_first, h1]
  rw [h3] at h2
  grind
/-- Not more roots than the degree. -/
theorem roots : ∀ (d : Nat) (a : Nat → Fp) (p : Nat → Fp), (∀ i j, i < j → j < d → p i ≠ p j) → (∀ i, i < d → ev d a (p i) = 0) → ∀ j, j < d → a j = 0
  | 0, _, _, _, _, _, h => by omega
  | d + 1, a, p, hp, hz, j, hj => by
    have hr := hz d (by omega)
    rw [ev_quo (p d)] at hr
    have hr' : a 0 + p d * quo (p d) d a 0 = 0 := by grind
    have hq := roots d (quo (p d) d a) p (fun i j h1 h2 => hp i j h1 (by omega)) (fun i hi => by
      have h := hz i (by omega)
      rw [ev_quo (p d), hr'] at h
      rcases mul_zero_cases (a := p i - p d) (b := ev d (quo (p d) d a) (p i)) (by grind) with h2 | h2
      · exact absurd (by grind) (hp i d hi (by omega))
      · exact h2)
    have hq' : ∀ i, i ≤ d → quo (p d) d a i = 0 := fun i hi => by
      by_cases e : i = d
      · rw [e, quo_end]
      · exact hq i (by omega)
    cases j with
    | zero => rw [hq' 0 (by omega)] at hr'; grind
    | succ j =>
      have := quo_step (p d) a (show j < d by omega)
      rw [hq' j (by omega), hq' (j + 1) (by omega)] at this
      grind
theorem toF_nat_ne {i j : Nat} (h : i < j) (hj : j < 65521) : toF i ≠ toF j := fun e => by
  have := toF_inj (x := (i : Int)) (y := (j : Int)) (by omega) (by omega) e
  omega
/-- Coefficients are told by the values at the numbers from k on. -/
theorem coeffs {d k : Nat} (hd : k + d ≤ 65521) {a b : Nat → Fp} (h : ∀ i : Nat, k ≤ i → i < k + d → ev d a (toF i) = ev d b (toF i)) : ∀ j, j < d → a j = b j := by
  intro j hj
  have := roots d (fun j => a j - b j) (fun i => toF ((k + i : Nat) : Int)) (fun i j h1 h2 => toF_nat_ne (by omega) (by omega)) (fun i hi => by
    have := h (k + i) (by omega) (by omega)
    unfold ev at this ⊢
    rw [S_congr (g := fun j => a j * pw (toF ((k + i : Nat) : Int)) j - b j * pw (toF ((k + i : Nat) : Int)) j) (fun j _ => by grind), S_sub, this]; grind) j hj
  grind
theorem coeffs_all {d : Nat} (hd : d ≤ 65521) {a b : Nat → Fp} (h : ∀ x, ev d a x = ev d b x) : ∀ j, j < d → a j = b j :=
  coeffs (k := 0) (by omega) (fun i _ _ => h _)
theorem ev_mono {d e : Nat} (h : d ≤ e) (a : Nat → Fp) (x : Fp) : ev d a x = ev e (fun j => if j < d then a j else 0) x := by
  obtain ⟨k, rfl⟩ := Nat.exists_eq_add_of_le h
  unfold ev
  rw [S_split, S_zero (n := k) (fun i _ => by simp only []; rw [if_neg (by omega)]; grind), S_congr (g := fun j => (if j < d then a j else 0) * pw x j) (fun i hi => by rw [if_pos hi])]; grind
theorem ev_add (d : Nat) (a b : Nat → Fp) (x : Fp) : ev d (fun j => a j + b j) x = ev d a x + ev d b x := by
  unfold ev; rw [← S_add]; exact S_congr fun j _ => by grind
theorem ev_mulc (d : Nat) (c : Fp) (a : Nat → Fp) (x : Fp) : ev d (fun j => c * a j) x = c * ev d a x := by
  unfold ev; rw [← S_mul]; exact S_congr fun j _ => by grind
theorem ev_x (d : Nat) (a : Nat → Fp) (x : Fp) : ev (d + 1) (fun j => if j = 0 then 0 else a (j - 1)) x = x * ev d a x := by
  rw [ev_first]; simp only [if_true]
  rw [show (fun j => if j + 1 = 0 then (0 : Fp) else a (j + 1 - 1)) = a from funext fun j => by simp]; grind
theorem Poly.mono {d e : Nat} {f : Fp → Fp} (h : Poly d f) (hd : d ≤ e) : Poly e f := by
  obtain ⟨a, ha⟩ := h; exact ⟨_, fun x => (ha x).trans (ev_mono hd a x)⟩
theorem Poly.add {d : Nat} {f g : Fp → Fp} (hf : Poly d f) (hg : Poly d g) : Poly d (fun x => f x + g x) := by
  obtain ⟨a, ha⟩ := hf; obtain ⟨b, hb⟩ := hg
  exact ⟨fun j => a j + b j, fun x => by rw [ev_add, ← ha, ← hb]⟩
theorem Poly.mulc {d : Nat} {f : Fp → Fp} (hf : Poly d f) (c : Fp) : Poly d (fun x => c * f x) := by
  obtain ⟨a, ha⟩ := hf; exact ⟨fun j => c * a j, fun x => by rw [ev_mulc, ← ha]⟩
theorem Poly.mulx {d : Nat} {f : Fp → Fp} (hf : Poly d f) : Poly (d + 1) (fun x => x * f x) := by
  obtain ⟨a, ha⟩ := hf; exact ⟨fun j => if j = 0 then 0 else a (j - 1), fun x => by rw [ev_x, ← ha]⟩
theorem Poly.const (c : Fp) : Poly 1 (fun _ => c) := ⟨fun _ => c, fun x => by simp only [ev, S, pw]; grind⟩
theorem Poly.sum {d : Nat} {n : Nat} {f : Nat → Fp → Fp} (h : ∀ i, i < n → Poly d (f i)) : Poly d (fun x => S n (fun i => f i x)) := by
  induction n with
  | zero => exact ⟨fun _ => 0, fun x => by unfold ev; rw [S_zero (n := d) (fun _ _ => by grind)]; rfl⟩
  | succ n ih => exact (ih fun i hi => h i (by omega)).add (h n (by omega))
/-- Apart from what it is at 0, a polynomial is a multiple of x. -/
theorem Poly.at0 {d : Nat} {f : Fp → Fp} (h : Poly (d + 1) f) : ∃ g, Poly d g ∧ ∀ x, f x = f 0 + x * g x := by
  obtain ⟨a, ha⟩ := h
  refine ⟨ev d (fun j => a (j + 1)), ⟨_, fun _ => rfl⟩, fun x => ?_⟩
  rw [ha, ha, ev_first, ev_first]; grind
theorem ev_sum (d n : Nat) (a : Nat → Nat → Fp) (x : Fp) : S n (fun i => ev d (a i) x) = ev d (fun j => S n (fun i => a i j)) x := by
  unfold ev; rw [S_swap]; exact S_congr fun j _ => by rw [← S_mul']
/-- The derivative. -/
def der (a : Nat → Fp) (j : Nat) : Fp := toF ((j : Int) + 1) * a (j + 1)
theorem pw_taylor (y : Fp) : ∀ t, ∃ q : Fp → Fp, Poly t q ∧ ∀ h, pw (y + h) (t + 1) = pw y (t + 1) + h * (toF ((t : Int) + 1) * pw y t) + h * h * q h
  | 0 => ⟨fun _ => 0, ⟨fun _ => 0, fun x => rfl⟩, fun h => by simp only [pw]; rw [show toF (((0 : Nat) : Int) + 1) = 1 from rfl]; grind⟩
  | t + 1 => by
    obtain ⟨q, hq, he⟩ := pw_taylor y t
    refine ⟨fun h => (toF ((t : Int) + 1) * pw y t + y * q h) + h * q h, ?_, fun h => ?_⟩
    · exact (((Poly.const _).mono (by omega)).add ((hq.mulc y).mono (by omega))).add hq.mulx
    · have e1 : toF (((t + 1 : Nat) : Int) + 1) = toF ((t : Int) + 1) + 1 := by
        rw [← toF_one, ← toF_add]; rfl
      have e2 : pw y (t + 1) = pw y t * y := rfl
      rw [show pw (y + h) (t + 1 + 1) = pw (y + h) (t + 1) * (y + h) from rfl, he, e1, show pw y (t + 1 + 1) = pw y (t + 1) * y from rfl, e2]
      generalize toF ((t : Int) + 1) = T
      grind
theorem ev_taylor (y : Fp) (a : Nat → Fp) : ∀ d, ∃ q : Fp → Fp, Poly d q ∧ ∀ h, ev (d + 1) a (y + h) = ev (d + 1) a y + h * ev d (der a) y + h * h * q h
  | 0 => ⟨fun _ => 0, ⟨fun _ => 0, fun _ => rfl⟩, fun h => by simp only [ev, S, pw]; grind⟩
  | d + 1 => by
    obtain ⟨q, hq, he⟩ := ev_taylor y a d
    obtain ⟨q2, hq2, he2⟩ := pw_taylor y d
    refine ⟨fun h => q h + a (d + 1) * q2 h, (hq.mono (by omega)).add ((hq2.mulc _).mono (by omega)), fun h => ?_⟩
    show ev (d + 1) a (y + h) + a (d + 1) * pw (y + h) (d + 1) = ev (d + 1) a y + a (d + 1) * pw y (d + 1) + h * (ev d (der a) y + der a d * pw y d) + _
    rw [he, he2]; unfold der; grind
/-- What is linear near y is the derivative. -/
theorem der_of {d e : Nat} (hd : d < 60000) (he : e < 60000) {a : Nat → Fp} {y L : Fp} {r : Fp → Fp} (hr : Poly e r) (h : ∀ t, ev (d + 1) a (y + t) = ev (d + 1) a y + t * L + t * t * r t) : L = ev d (der a) y := by
  obtain ⟨q, hq, h2⟩ := ev_taylor y a d
  have hp : Poly (max d e + 1) (fun t => (L - ev d (der a) y) + t * (r t + -1 * q t)) :=
    ((Poly.const _).mono (by omega)).add ((((hr.mono (Nat.le_max_right d e)).add ((hq.mulc (-1)).mono (Nat.le_max_left d e)))).mulx)
  obtain ⟨b, hb⟩ := hp
  have hz := coeffs (d := max d e + 1) (k := 1) (a := b) (b := fun _ => 0) (by omega) (fun i h1 h3 => by
    rw [← hb]
    have hi : toF (i : Int) ≠ 0 := fun e => by have := (toF_eq_zero (x := (i : Int)) (by omega)).1 e; omega
    have e1 := h (toF i)
    rw [h2] at e1
    rw [ev_zero]
    simp only []
    generalize toF (i : Int) = z at *
    generalize ev (d + 1) a (y + z) = E at *
    have h5 := h2 z
    generalize ev (d + 1) a (y + z) = E2 at *
    generalize ev d (der a) y = E1 at *
    generalize r z = R at *
    generalize q z = Q at *
    rcases mul_zero_cases (a := z) (b := (L - E1) + z * (R + -1 * Q)) (by clear h h2 hb; grind) with h4 | h4
    · exact absurd h4 hi
    · exact h4)
  have h0 := hb 0
  rw [ev_first, hz 0 (by omega)] at h0
  grind
end Go.Proofs.YtfljkcmijnhgkaaDoor

namespace Go.Proofs.YtfljkcmijnhgkaaDoor

def cnt (q : Nat) : Nat → Nat
  | 0 => 0
  | j + 1 => cnt q j + if j = q then 0 else 1
theorem cnt_le (q j : Nat) : cnt q j ≤ j := by
  induction j with
  | zero => exact Nat.le_refl _
  | succ j ih => simp only [cnt]; split <;> omega
theorem cnt_lt {q j : Nat} (h : q < j) : cnt q j + 1 ≤ j := by
  induction j with
  | zero => omega
  | succ j ih =>
    simp only [cnt]
    by_cases e : j = q
    · rw [if_pos e]; have := cnt_le q j; omega
    · rw [if_neg e]; have := ih (by omega); omega
/-- The determinant of rows that are linear in x, all but number q. -/
theorem D_poly (n : Nat) (U V : Mx) (q : Nat) : ∀ (j : Nat), j ≤ n → ∀ W : Mx, Poly (cnt q j + 1) (fun x => D n (fun i k => if i < j ∧ i ≠ q then U i k + x * V i k else W i k))
  | 0, _, W => by
    have e : (fun x : Fp => D n (fun i k => if i < 0 ∧ i ≠ q then U i k + x * V i k else W i k)) = fun _ => D n W := funext fun x => D_congr n _ _ fun i k _ _ => if_neg (by omega)
    rw [e]; exact Poly.const _
  | j + 1, h, W => by
    by_cases hq : j = q
    · have e : (fun x : Fp => D n (fun i k => if i < j + 1 ∧ i ≠ q then U i k + x * V i k else W i k)) = fun x => D n (fun i k => if i < j ∧ i ≠ q then U i k + x * V i k else W i k) := funext fun x => D_congr n _ _ fun i k _ _ => by
        by_cases h1 : i < j ∧ i ≠ q
        · rw [if_pos h1, if_pos (by omega)]
        · rw [if_neg h1, if_neg (by omega)]
      rw [e, cnt, if_pos hq]; exact D_poly n U V q j (by omega) W
    · have e : (fun x : Fp => D n (fun i k => if i < j + 1 ∧ i ≠ q then U i k + x * V i k else W i k)) = fun x => D n (fun i k => if i < j ∧ i ≠ q then U i k + x * V i k else upd W j (U j) i k) + x * D n (fun i k => if i < j ∧ i ≠ q then U i k + x * V i k else upd W j (V j) i k) := funext fun x => by
        have e2 : ∀ r : Nat → Fp, (fun i k => if i < j ∧ i ≠ q then U i k + x * V i k else upd W j r i k) = upd (fun i k => if i < j ∧ i ≠ q then U i k + x * V i k else W i k) j r := fun r => by
          funext i k
          unfold upd
          by_cases h1 : i = j
          · rw [if_pos h1, if_neg (by omega), if_pos h1]
          · rw [if_neg h1, if_neg h1]
        rw [e2, e2, ← D_lin n _ j (U j) (V j) x (by omega)]
        refine congrArg _ ?_
        funext i k
        unfold upd
        by_cases h1 : i = j
        · subst h1; rw [if_pos (by omega), if_pos rfl]
        · rw [if_neg h1]
          show (if i < j + 1 ∧ i ≠ q then U i k + x * V i k else W i k) = if i < j ∧ i ≠ q then U i k + x * V i k else W i k
          by_cases h2 : i < j ∧ i ≠ q
          · rw [if_pos h2, if_pos (by omega)]
          · rw [if_neg h2, if_neg (by omega)]
      rw [e, cnt, if_neg hq]
      exact ((D_poly n U V q j (by omega) _).mono (by omega)).add (D_poly n U V q j (by omega) _).mulx
/-- 1 - yA. -/
def My (A : Mx) (y : Fp) : Mx := fun i k => one i k + y * (- A i k)
def cof (n : Nat) (A : Mx) (q i : Nat) (y : Fp) : Fp := D n (upd (My A y) q (one i))
theorem poly_e (n : Nat) (A : Mx) : Poly (n + 1) (fun y => D n (My A y)) := by
  have h := D_poly n one (fun i k => - A i k) n n (Nat.le_refl _) one
  have e : (fun x : Fp => D n (fun i k => if i < n ∧ i ≠ n then one i k + x * (fun i k => - A i k) i k else one i k)) = fun y => D n (My A y) := funext fun x => D_congr n _ _ fun i k hi _ => if_pos (by omega)
  rw [e] at h
  exact h.mono (by have := cnt_le n n; omega)
theorem poly_cof (n : Nat) (A : Mx) {q : Nat} (hq : q < n) (i : Nat) : Poly n (cof n A q i) := by
  have h := D_poly n one (fun i k => - A i k) q n (Nat.le_refl _) (fun _ => one i)
  have e : (fun x : Fp => D n (fun a k => if a < n ∧ a ≠ q then one a k + x * (fun i k => - A i k) a k else one i k)) = cof n A q i := funext fun x => D_congr n _ _ fun a k ha _ => by
    unfold upd
    by_cases h1 : a = q
    · rw [if_neg (by omega), if_pos h1]
    · rw [if_pos ⟨ha, h1⟩, if_neg h1]; rfl
  rw [e] at h
  exact h.mono (by have := cnt_lt hq; omega)
theorem one_sum {n k : Nat} (f : Nat → Fp) (hk : k < n) : S n (fun j => f j * one j k) = f k := by
  rw [S_one (k := k) hk (fun j _ hn => by simp only [one, if_neg hn]; grind)]; simp only [one, if_true]; grind
theorem row_cof {n q : Nat} (M : Mx) (r : Nat → Fp) (hq : q < n) : D n (upd M q r) = S n (fun j => r j * D n (upd M q (one j))) := by
  rw [← D_sum M hq r one n]
  exact D_congr n _ _ fun a k _ hk => by unfold upd; split; exact (one_sum r hk).symm; rfl
theorem adj (n : Nat) (A : Mx) (y : Fp) {i q : Nat} (hi : i < n) (hq : q < n) : cof n A q i y + y * S n (fun j => - A i j * cof n A q j y) = if i = q then D n (My A y) else 0 := by
  have h := row_cof (My A y) (My A y i) hq
  have e1 : S n (fun j => My A y i j * D n (upd (My A y) q (one j))) = cof n A q i y + y * S n (fun j => - A i j * cof n A q j y) := by
    rw [S_congr (g := fun j => cof n A q j y * one j i + y * (- A i j * cof n A q j y)) (fun j _ => by
      show (one i j + y * (- A i j)) * cof n A q j y = _
      have : one i j = one j i := by unfold one; by_cases h : i = j; rw [if_pos h, if_pos h.symm]; rw [if_neg h, if_neg (fun e => h e.symm)]
      rw [this]; grind), S_add, S_mul, one_sum _ hi]
  rw [← e1, ← h]
  by_cases e : i = q
  · rw [if_pos e, e, upd_same]
  · rw [if_neg e]
    exact D_same hq hi (fun h => e h.symm) _ fun k => by unfold upd; rw [if_pos rfl, if_neg e]
/-- The determinant near y. -/
theorem tele (n : Nat) (A : Mx) (y : Fp) : ∀ j, j ≤ n → ∃ r, Poly n r ∧ ∀ h, D n (fun i k => if i < j ∧ i ≠ n then My A y i k + h * (fun i k => - A i k) i k else My A y i k) = D n (My A y) + h * S j (fun i => D n (upd (My A y) i (fun k => - A i k))) + h * h * r h
  | 0, _ => ⟨fun _ => 0, ⟨fun _ => 0, fun x => (ev_zero n x).symm⟩, fun h => by
    rw [D_congr n _ (My A y) (fun i k _ _ => if_neg (by omega))]; simp only [S]; grind⟩
  | j + 1, hj => by
    obtain ⟨r, hr, he⟩ := tele n A y j (by omega)
    have hp := D_poly n (My A y) (fun i k => - A i k) n j (by omega) (upd (My A y) j (fun k => - A j k))
    obtain ⟨g, hg, h0⟩ := hp.at0
    refine ⟨fun h => r h + g h, hr.add (hg.mono (by have := cnt_le n j; omega)), fun h => ?_⟩
    have e2 : ∀ w : Nat → Fp, (fun i k => if i < j ∧ i ≠ n then My A y i k + h * (fun i k => - A i k) i k else upd (My A y) j w i k) = upd (fun i k => if i < j ∧ i ≠ n then My A y i k + h * (fun i k => - A i k) i k else My A y i k) j w := fun w => by
      funext i k
      unfold upd
      by_cases h1 : i = j
      · rw [if_pos h1, if_neg (by omega), if_pos h1]
      · rw [if_neg h1, if_neg h1]
    have e3 : D n (fun i k => if i < j + 1 ∧ i ≠ n then My A y i k + h * (fun i k => - A i k) i k else My A y i k) = D n (fun i k => if i < j ∧ i ≠ n then My A y i k + h * (fun i k => - A i k) i k else My A y i k) + h * D n (fun i k => if i < j ∧ i ≠ n then My A y i k + h * (fun i k => - A i k) i k else upd (My A y) j (fun k => - A j k) i k) := by
      have e4 := e2 (My A y j)
      rw [upd_same] at e4
      rw [show D n (fun i k => if i < j ∧ i ≠ n then My A y i k + h * (fun i k => - A i k) i k else My A y i k) = D n (upd _ j (My A y j)) from congrArg (D n) e4, e2, ← D_lin n _ j (My A y j) (fun k => - A j k) h (by omega)]
      refine congrArg _ ?_
      funext i k
      unfold upd
      by_cases h1 : i = j
      · subst h1; rw [if_pos (by omega), if_pos rfl]
      · rw [if_neg h1]
        show (if i < j + 1 ∧ i ≠ n then My A y i k + h * (- A i k) else My A y i k) = if i < j ∧ i ≠ n then My A y i k + h * (- A i k) else My A y i k
        by_cases h2 : i < j ∧ i ≠ n
        · rw [if_pos h2, if_pos (by omega)]
        · rw [if_neg h2, if_neg (by omega)]
    have e5 := h0 h
    rw [e3, he, e5, S]
    have e6 : D n (fun i k => if i < j ∧ i ≠ n then My A y i k + (0 : Fp) * - A i k else upd (My A y) j (fun k => - A j k) i k) = D n (upd (My A y) j (fun k => - A j k)) := D_congr n _ _ fun i k _ _ => by
      by_cases h2 : i < j ∧ i ≠ n
      · rw [if_pos h2]; unfold upd; rw [if_neg (by omega)]; grind
      · rw [if_neg h2]
    rw [e6]; grind
theorem der_e (n : Nat) (hn : n < 60000) (A : Mx) {ec : Nat → Fp} (hec : ∀ y, D n (My A y) = ev (n + 1) ec y) (y : Fp) : S n (fun i => S n (fun k => - A i k * cof n A i k y)) = ev n (der ec) y := by
  obtain ⟨r, hr, he⟩ := tele n A y n (Nat.le_refl _)
  have h := der_of hn hn hr (L := S n (fun i => D n (upd (My A y) i (fun k => - A i k)))) (a := ec) (y := y) (fun t => by
    rw [← hec, ← hec, ← he]
    exact D_congr n _ _ fun i k hi _ => by rw [if_pos (by omega)]; unfold My; grind)
  rw [← h]
  exact S_congr fun i hi => (row_cof (My A y) (fun k => - A i k) hi).symm

/-- The coefficients, and the matrices that they are made of. -/
theorem faddeev (n : Nat) (hn : n < 60000) (A : Mx) : ∃ (ec : Nat → Fp) (B : Nat → Mx), ec 0 = 1 ∧ (∀ y, D n (My A y) = ev (n + 1) ec y) ∧
    (∀ i q, i < n → q < n → B 0 i q = one i q) ∧
    (∀ t, t < n → ∀ i q, i < n → q < n → B (t + 1) i q = mul n A (B t) i q + ec (t + 1) * one i q) ∧
    (∀ i q, B n i q = 0) ∧
    (∀ t, t < n → toF ((t : Int) + 1) * ec (t + 1) = - S n (fun i => mul n A (B t) i i)) := by
  obtain ⟨ec, hec⟩ := poly_e n A
  replace hec : ∀ y, D n (My A y) = ev (n + 1) ec y := hec
  have hb : ∀ q i, ∃ b : Nat → Fp, q < n → ∀ y, cof n A q i y = ev n b y := fun q i => by
    by_cases hq : q < n
    · obtain ⟨b, h⟩ := poly_cof n A hq i; exact ⟨b, fun _ => h⟩
    · exact ⟨fun _ => 0, fun h => absurd h hq⟩
  have hb' := fun q i => Classical.choose_spec (hb q i)
  generalize hbb : (fun q i => Classical.choose (hb q i)) = b at *
  have hc : ∀ q i, q < n → ∀ y, cof n A q i y = ev n (b q i) y := fun q i => by rw [← hbb]; exact hb' q i
  have h0 : ec 0 = 1 := by
    have h := hec 0
    rw [ev_first] at h
    rw [D_congr n (My A 0) one (fun i k _ _ => by unfold My; grind), D_one_] at h
    grind
  have hco : ∀ i q, i < n → q < n → ∀ t, t < n + 1 → (if t < n then b q i t else 0) + (if t = 0 then 0 else S n (fun j => - A i j * b q j (t - 1))) = if i = q then ec t else 0 := by
    intro i q hi hq
    refine coeffs_all (d := n + 1) (by omega) fun y => ?_
    rw [ev_add, ← ev_mono (Nat.le_succ n), ev_x n (fun t => S n (fun j => - A i j * b q j t)), ← ev_sum, ← hc q i hq, S_congr (g := fun j => - A i j * cof n A q j y) (fun j _ => by rw [hc q j hq, ev_mulc]), adj n A y hi hq]
    by_cases e : i = q
    · rw [if_pos e, hec]; simp only [if_pos e]
    · rw [if_neg e]; simp only [if_neg e]; exact (ev_zero _ _).symm
  have hder : ∀ t, t < n → der ec t = S n (fun i => S n (fun k => - A i k * b i k t)) := by
    refine coeffs_all (d := n) (by omega) fun y => ?_
    rw [← der_e n hn A hec y, ← ev_sum]
    refine S_congr fun i hi => ?_
    rw [← ev_sum]
    exact S_congr fun k _ => by rw [hc i k hi, ev_mulc]
  refine ⟨ec, fun t i q => if t < n then b q i t else 0, h0, hec, fun i q hi hq => ?_, fun t ht i q hi hq => ?_, fun i q => if_neg (by omega), fun t ht => ?_⟩
  · have h := hco i q hi hq 0 (by omega)
    simp only [if_true, h0] at h
    show _ = if i = q then (1 : Fp) else 0
    rw [← h]; grind
  · have h := hco i q hi hq (t + 1) (by omega)
    rw [if_neg (by omega : ¬ t + 1 = 0), Nat.add_sub_cancel] at h
    show (if t + 1 < n then b q i (t + 1) else 0) = S n (fun j => A i j * (if t < n then b q j t else 0)) + ec (t + 1) * (if i = q then 1 else 0)
    rw [S_congr (g := fun j => - (- A i j * b q j t)) (fun j _ => by rw [if_pos ht]; grind), S_neg]
    by_cases e : i = q
    · rw [if_pos e] at h ⊢; grind
    · rw [if_neg e] at h ⊢; grind
  · have h := hder t ht
    unfold der at h
    rw [h, ← S_neg]
    refine S_congr fun i hi => ?_
    show _ = - S n (fun j => A i j * (if t < n then b i j t else 0))
    rw [← S_neg]
    exact S_congr fun j _ => by rw [if_pos ht]; grind

/-- What the program makes: the matrices, and the numbers. -/
def flB (n : Nat) (A : Mx) : Nat → Mx
  | 0 => one
  | k + 1 => fun i q => mul n A (flB n A k) i q - S n (fun i => mul n A (flB n A k) i i) * inv (toF ((k : Int) + 1)) * one i q
def flC (n : Nat) (A : Mx) (k : Nat) : Fp := S n (fun i => mul n A (flB n A k) i i) * inv (toF ((k : Int) + 1))
theorem mul_congr {n : Nat} (A : Mx) {B C : Mx} (h : ∀ i q, i < n → q < n → B i q = C i q) {i q : Nat} (hq : q < n) : mul n A B i q = mul n A C i q := S_congr fun j hj => by rw [h j q hj hq]
theorem fl_eq {n : Nat} (hn : n < 60000) {A : Mx} {ec : Nat → Fp} {B : Nat → Mx} (h0 : ∀ i q, i < n → q < n → B 0 i q = one i q)
    (h1 : ∀ t, t < n → ∀ i q, i < n → q < n → B (t + 1) i q = mul n A (B t) i q + ec (t + 1) * one i q) (h2 : ∀ t, t < n → toF ((t : Int) + 1) * ec (t + 1) = - S n (fun i => mul n A (B t) i i)) :
    ∀ k, k ≤ n → (∀ i q, i < n → q < n → flB n A k i q = B k i q) ∧ (k < n → flC n A k = - ec (k + 1)) := by
  have hC : ∀ k, k < n → (∀ i q, i < n → q < n → flB n A k i q = B k i q) → flC n A k = - ec (k + 1) := fun k hk h => by
    have hne : toF ((k : Int) + 1) ≠ 0 := fun e => by have := (toF_eq_zero (x := (k : Int) + 1) (by omega)).1 e; omega
    have hm := mul_inv hne
    unfold flC
    rw [S_congr (g := fun i => mul n A (B k) i i) (fun i hi => mul_congr A h hi)]
    have := h2 k hk
    generalize S n (fun i => mul n A (B k) i i) = T at *
    generalize toF ((k : Int) + 1) = z at *
    generalize ec (k + 1) = c at *
    have : T = - (z * c) := by grind
    rw [this]; grind
  intro k
  induction k with
  | zero => intro _; exact ⟨fun i q hi hq => (h0 i q hi hq).symm, fun hk => hC 0 hk (fun i q hi hq => (h0 i q hi hq).symm)⟩
  | succ k ih =>
    intro hk
    obtain ⟨i1, i2⟩ := ih (by omega)
    have e : ∀ i q, i < n → q < n → flB n A (k + 1) i q = B (k + 1) i q := fun i q hi hq => by
      rw [h1 k (by omega) i q hi hq]
      show mul n A (flB n A k) i q - flC n A k * one i q = _
      rw [i2 (by omega), mul_congr A i1 hq]; grind
    exact ⟨e, fun hk => hC (k + 1) hk e⟩
theorem D_scale (c : Fp) : ∀ (n : Nat) (A : Mx), D n (fun i k => c * A i k) = pw c n * D n A
  | 0, _ => by simp only [D, pw]; grind
  | n + 1, A => by
    rw [D, D, ← S_mul]
    refine S_congr fun i _ => ?_
    rw [show minor (fun i k => c * A i k) i = fun a b => c * minor A i a b from rfl, D_scale c n, pw]; grind
theorem S_rev (n : Nat) (f : Nat → Fp) : S (n + 1) f = S (n + 1) (fun t => f (n - t)) := by
  induction n with
  | zero => simp only [S, Nat.sub_zero]
  | succ n ih =>
    rw [S, ih, S_first (n + 1) (fun t => f (n + 1 - t)), S_congr (n := n + 1) (f := fun i => f (n + 1 - (i + 1))) (g := fun t => f (n - t)) (fun i _ => by rw [Nat.add_sub_add_right])]
    simp only [Nat.sub_zero]; grind
theorem pw_inv {x : Fp} (hx : x ≠ 0) {n t : Nat} (h : t ≤ n) : pw x n * pw (inv x) t = pw x (n - t) := by
  obtain ⟨e, rfl⟩ := Nat.exists_eq_add_of_le h
  have h1 : pw x t * pw (inv x) t = 1 := by rw [← pw_mul, mul_inv hx, pw_one]
  rw [pw_add, Nat.add_sub_cancel_left]; grind
/-- The determinant of x - A, by the numbers that the program makes. -/
theorem chi_eq (n : Nat) (hn : n < 60000) (A : Mx) (x : Fp) : D n (fun i k => (if i = k then x else 0) - A i k) = pw x n - S n (fun k => flC n A k * pw x (n - 1 - k)) := by
  obtain ⟨ec, B, e0, hec, b0, b1, -, b3⟩ := faddeev n hn A
  have hfl := fl_eq hn b0 b1 b3
  have hp : Poly (n + 1) (fun x => D n (fun i k => (if i = k then x else 0) - A i k)) := by
    have h := D_poly n (fun i k => - A i k) one n n (Nat.le_refl _) one
    have e : (fun x : Fp => D n (fun i k => if i < n ∧ i ≠ n then (fun i k => - A i k) i k + x * one i k else one i k)) = fun x => D n (fun i k => (if i = k then x else 0) - A i k) := funext fun x => D_congr n _ _ fun i k hi _ => by
      rw [if_pos (by omega)]; unfold one; split <;> grind
    rw [e] at h
    exact h.mono (by have := cnt_le n n; omega)
  obtain ⟨hh, hhe⟩ := hp
  have hne : ∀ x : Fp, x ≠ 0 → ev (n + 1) hh x = ev (n + 1) (fun j => ec (n - j)) x := fun x hx => by
    rw [← hhe]
    show D n (fun i k => (if i = k then x else 0) - A i k) = _
    have hm := mul_inv hx
    have e1 : D n (fun i k => (if i = k then x else 0) - A i k) = D n (fun i k => x * My A (inv x) i k) := D_congr n _ _ fun i k _ _ => by
      unfold My one; split <;> grind
    rw [e1, D_scale, hec]
    unfold ev
    rw [← S_mul, S_rev n (fun j => ec (n - j) * pw x j)]
    exact S_congr fun t ht => by rw [show n - (n - t) = t by omega, ← pw_inv hx (show t ≤ n by omega)]; grind
  have hco := coeffs (d := n + 1) (k := 1) (by omega) (fun i h1 h2 => hne (toF i) (fun e => by have := (toF_eq_zero (x := (i : Int)) (by omega)).1 e; omega))
  have h2 := hhe x
  dsimp only at h2
  rw [h2]
  have h3 : ev (n + 1) hh x = S (n + 1) (fun t => ec t * pw x (n - t)) := by
    unfold ev
    rw [S_congr (g := fun j => ec (n - j) * pw x j) (fun j hj => by rw [hco j hj]), S_rev n]
    exact S_congr fun t ht => by rw [show n - (n - t) = t by omega]
  rw [h3, S_first, e0, Nat.sub_zero, S_congr (n := n) (g := fun k => - (flC n A k * pw x (n - 1 - k))) (fun k hk => by rw [(hfl k (by omega)).2 hk, show n - (k + 1) = n - 1 - k by omega]; grind), S_neg]; grind
/-- Cayley and Hamilton: behind all rounds nothing is left. -/
theorem flB_end (n : Nat) (hn : n < 60000) (A : Mx) : ∀ i q, i < n → q < n → flB n A n i q = 0 := by
  obtain ⟨ec, B, e0, hec, b0, b1, b2, b3⟩ := faddeev n hn A
  exact fun i q hi hq => by rw [(fl_eq hn b0 b1 b3 n (Nat.le_refl _)).1 i q hi hq, b2]
end Go.Proofs.YtfljkcmijnhgkaaDoor
