/- Residues modulo the prime 65521 are a field: sums, products, inverses, powers. Sums of residues, and that more rows than columns depend on each other. Determinants: they change their signs with rows, and are linear in each row. What an elimination keeps and leaves: rows, signs, and the shape of columns. Ranks do not depend on the order of the columns; the program's determinant is the one by the first column; determinants of products. -/
import Derived.Test.YtfljkcmijnhgkaaDoorKa
import Derived.Test.YtfljkcmijnhgkaaDoorKd
import Derived.Test.YtfljkcmijnhgkaaDoorKf
namespace Go.Proofs.YtfljkcmijnhgkaaDoor
theorem small_div : ∀ q : Fin 257, 1 < q.val → 65521 % q.val ≠ 0 := by decide +kernel
def expo : Nat := 65520
theorem small_pow : ∀ a : Fin 257, 0 < a.val → a.val ^ expo % 65521 = 1 := by decide +kernel
/-- Fermat's theorem. -/
theorem fermat (a : Nat) : 0 < a → a < 65521 → a ^ expo % 65521 = 1 := by
  induction a using Nat.strongRecOn with
  | ind a ih =>
    intro h0 h1
    by_cases hs : a < 257
    · exact small_pow ⟨a, hs⟩ h0
    · have e := Nat.div_add_mod 65521 a
      have hr : 65521 % a < a := Nat.mod_lt _ h0
      have hq : 65521 / a < 256 := Nat.div_lt_of_lt_mul (by omega)
      have hq0 : 0 < 65521 / a := Nat.div_pos (by omega) h0
      have hr0 : 0 < 65521 % a := by
        rcases Nat.eq_zero_or_pos (65521 % a) with hz | hz
        · rw [hz] at e
          by_cases hq1 : 65521 / a = 1
          · rw [hq1] at e; omega
          · have hd : 65521 / a ∣ 65521 := ⟨a, by rw [Nat.mul_comm]; omega⟩
            exact absurd (Nat.mod_eq_zero_of_dvd hd) (small_div ⟨65521 / a, by omega⟩ (by show 1 < 65521 / a; omega))
        · exact hz
      have ir := ih _ hr hr0 (by omega)
      have iq := ih _ (show 65521 / a < a by omega) hq0 (by omega)
      generalize 65521 % a = r at *
      generalize 65521 / a = q at *
      have h2 : (a * q) ^ 2 % 65521 = r ^ 2 % 65521 := by
        have e2 : ((a * q : Nat) : Int) = 65521 - (r : Int) := by have : ((a * q + r : Nat) : Int) = 65521 := by rw [e]; rfl
                                                                  push_cast at this ⊢; omega
        have e3 : (((a * q) ^ 2 : Nat) : Int) = ((r ^ 2 : Nat) : Int) + 65521 * (65521 - 2 * (r : Int)) := by
          push_cast at e2 ⊢
          rw [e2]; grind
        have e4 : (((a * q) ^ 2 : Nat) : Int) % 65521 = ((r ^ 2 : Nat) : Int) % 65521 := by rw [e3, Int.add_mul_emod_self_left]
        omega
      have h3 : (a * q) ^ expo % 65521 = 1 := by
        obtain ⟨m, hm⟩ : ∃ m, expo = 2 * m := ⟨32760, rfl⟩
        rw [hm] at ir ⊢
        rw [Nat.pow_mul, Nat.pow_mod, h2, ← Nat.pow_mod, ← Nat.pow_mul]
        exact ir
      rw [Nat.mul_pow, Nat.mul_mod, iq, Nat.mul_one, Nat.mod_mod] at h3
      exact h3

/-- The residues. -/
abbrev Fp := Fin 65521
/-- The residue of a number. -/
def toF (x : Int) : Fp := ⟨(x % 65521).toNat, by omega⟩
theorem toF_val (x : Int) : ((toF x).val : Int) = x % 65521 := by simp only [toF]; omega
theorem fp_ext {a b : Fp} (h : (a.val : Int) = b.val) : a = b := Fin.ext (by omega)
theorem toF_add (x y : Int) : toF (x + y) = toF x + toF y := by
  apply fp_ext
  have h1 := toF_val x; have h2 := toF_val y
  rw [toF_val, Fin.val_add, Int.natCast_emod, Int.natCast_add, h1, h2]
  exact Int.add_emod x y 65521
theorem toF_mul (x y : Int) : toF (x * y) = toF x * toF y := by
  apply fp_ext
  rw [toF_val, Fin.val_mul, Int.natCast_emod, Int.natCast_mul, toF_val, toF_val]
  exact Int.mul_emod x y 65521
theorem toF_emod (x : Int) : toF (x % 65521) = toF x := by
  apply fp_ext
  rw [toF_val, toF_val, Int.emod_emod_of_dvd _ (Int.dvd_refl _)]
theorem toF_zero : toF 0 = 0 := rfl
theorem toF_one : toF 1 = 1 := rfl
theorem toF_p : toF 65521 = 0 := rfl
theorem toF_neg (x : Int) : toF (-x) = - toF x := by
  have h : toF (-x) + toF x = 0 := by rw [← toF_add, Int.add_left_neg, toF_zero]
  grind
theorem toF_sub (x y : Int) : toF (x - y) = toF x - toF y := by
  rw [Int.sub_eq_add_neg, toF_add, toF_neg]; grind
theorem toF_inj {x y : Int} (hx : 0 ≤ x ∧ x < 65521) (hy : 0 ≤ y ∧ y < 65521) (h : toF x = toF y) : x = y := by
  have h1 := toF_val x; have h2 := toF_val y
  rw [h] at h1; omega
theorem toF_eq_zero {x : Int} (hx : 0 ≤ x ∧ x < 65521) : toF x = 0 ↔ x = 0 :=
  ⟨fun h => toF_inj hx (by decide) (h.trans toF_zero.symm), fun h => by rw [h, toF_zero]⟩
/-- What gives 1 with a residue. -/
def inv (a : Fp) : Fp := toF (invN (a.val : Int))
theorem mul_inv {a : Fp} (h : a ≠ 0) : a * inv a = 1 := by
  have h0 : 0 < a.val := by
    rcases Nat.eq_zero_or_pos a.val with e | e
    · exact absurd (Fin.ext e) h
    · exact e
  have hf := fermat a.val h0 a.isLt
  apply Fin.ext
  rw [Fin.val_mul]
  have e : (inv a).val = a.val ^ 65519 % 65521 := by
    have := toF_val (invN (a.val : Int))
    rw [invN, Int.toNat_natCast] at this
    simp only [inv, invN, Int.toNat_natCast]
    omega
  obtain ⟨k, hk, hk2⟩ : ∃ k, k = 65519 ∧ expo = k + 1 := ⟨65519, rfl, rfl⟩
  rw [← hk] at e
  rw [hk2] at hf
  rw [e, Nat.mul_mod_mod, ← Nat.pow_succ', hf]; rfl
theorem inv_mul {a : Fp} (h : a ≠ 0) : inv a * a = 1 := by rw [← mul_inv h]; grind
theorem toF_inv {x : Int} (hx : 0 ≤ x ∧ x < 65521) : toF (invN x) = inv (toF x) := by
  have e : ((toF x).val : Int) = x := by rw [toF_val]; omega
  rw [inv, e]
theorem mul_zero_cases {a b : Fp} (h : a * b = 0) : a = 0 ∨ b = 0 := by
  by_cases ha : a = 0
  · exact Or.inl ha
  · have := inv_mul ha
    exact Or.inr (by grind)
theorem one_ne_zero : (1 : Fp) ≠ 0 := by decide
end Go.Proofs.YtfljkcmijnhgkaaDoor

namespace Go.Proofs.YtfljkcmijnhgkaaDoor
/-- Sums. -/
def S : Nat → (Nat → Fp) → Fp
  | 0, _ => 0
  | n + 1, f => S n f + f n
theorem S_congr {n : Nat} {f g : Nat → Fp} (h : ∀ i, i < n → f i = g i) : S n f = S n g := by
  induction n with
  | zero => rfl
  | succ n ih => rw [S, S, ih (fun i hi => h i (by omega)), h n (by omega)]
theorem S_zero {n : Nat} {f : Nat → Fp} (h : ∀ i, i < n → f i = 0) : S n f = 0 := by
  induction n with
  | zero => rfl
  | succ n ih => rw [S, ih (fun i hi => h i (by omega)), h n (by omega)]; grind
theorem S_add (n : Nat) (f g : Nat → Fp) : S n (fun i => f i + g i) = S n f + S n g := by
  induction n with
  | zero => simp only [S]; grind
  | succ n ih => rw [S, S, S, ih]; grind
theorem S_mul (n : Nat) (c : Fp) (f : Nat → Fp) : S n (fun i => c * f i) = c * S n f := by
  induction n with
  | zero => simp only [S]; grind
  | succ n ih => rw [S, S, ih]; grind
theorem S_mul' (n : Nat) (c : Fp) (f : Nat → Fp) : S n (fun i => f i * c) = S n f * c := by
  induction n with
  | zero => simp only [S]; grind
  | succ n ih => rw [S, S, ih]; grind
theorem S_one {n k : Nat} {f : Nat → Fp} (hk : k < n) (h : ∀ i, i < n → i ≠ k → f i = 0) : S n f = f k := by
  induction n with
  | zero => omega
  | succ n ih =>
    rw [S]
    by_cases e : k = n
    · subst e
      rw [S_zero (fun i hi => h i (by omega) (by omega))]; grind
    · rw [ih (by omega) (fun i hi hn => h i (by omega) hn), h n (by omega) (by omega)]; grind
theorem S_swap (n m : Nat) (f : Nat → Nat → Fp) : S n (fun i => S m (f i)) = S m (fun k => S n (fun i => f i k)) := by
  induction n with
  | zero => exact (S_zero (fun _ _ => rfl)).symm
  | succ n ih => rw [S, ih, ← S_add]; rfl
theorem S_split (n k : Nat) (f : Nat → Fp) : S (n + k) f = S n f + S k (fun i => f (n + i)) := by
  induction k with
  | zero => simp only [S]; grind
  | succ k ih => rw [← Nat.add_assoc, S, S, ih]; grind
end Go.Proofs.YtfljkcmijnhgkaaDoor

namespace Go.Proofs.YtfljkcmijnhgkaaDoor
abbrev Mx := Nat → Nat → Fp
/-- Row i is another one now. -/
def upd (A : Mx) (i : Nat) (r : Nat → Fp) : Mx := fun a b => if a = i then r b else A a b
def minor (A : Mx) (i : Nat) : Mx := fun a b => A (if a < i then a else a + 1) (b + 1)
def sgn (i : Nat) : Fp := if i % 2 = 0 then 1 else -1
/-- The determinant, by its first column. -/
def D : Nat → Mx → Fp
  | 0, _ => 1
  | n + 1, A => S (n + 1) (fun i => sgn i * A i 0 * D n (minor A i))
/-- What is linear in rows, and 0 where two are the same, as it is seen by eliminations. -/
structure Alt (n : Nat) (f : Mx → Fp) : Prop where
  scale : ∀ (A : Mx) (i : Nat) (c : Fp), i < n → f (upd A i (fun k => c * A i k)) = c * f A
  addm : ∀ (A : Mx) (i j : Nat) (c : Fp), i < n → j < n → i ≠ j → f (upd A i (fun k => A i k + c * A j k)) = f A
  congr : ∀ (A B : Mx), (∀ i k, i < n → k < n → A i k = B i k) → f A = f B
def one : Mx := fun i k => if i = k then 1 else 0
variable {n : Nat} {f : Mx → Fp}
theorem Alt.zero (hf : Alt n f) (A : Mx) {i : Nat} (hi : i < n) (h : ∀ k, k < n → A i k = 0) : f A = 0 := by
  have h2 := hf.scale A i 0 hi
  rw [hf.congr (upd A i fun k => 0 * A i k) A (fun a b _ hb => by unfold upd; split; rename_i e; rw [e, h b hb]; grind; rfl)] at h2
  grind
theorem Alt.swap (hf : Alt n f) (A : Mx) {i j : Nat} (hi : i < n) (hj : j < n) (hij : i ≠ j) : f (upd (upd A i (A j)) j (A i)) = - f A := by
  have h1 := hf.addm A i j 1 hi hj hij
  generalize hB : upd A i (fun k => A i k + 1 * A j k) = B at h1
  have h2 := hf.addm B j i (-1) hj hi (fun e => hij e.symm)
  generalize hC : upd B j (fun k => B j k + -1 * B i k) = C at h2
  have h3 := hf.addm C i j 1 hi hj hij
  generalize hE : upd C i (fun k => C i k + 1 * C j k) = E at h3
  have h4 := hf.scale E j (-1) hj
  have e : upd E j (fun k => -1 * E j k) = upd (upd A i (A j)) j (A i) := by
    subst hE; subst hC; subst hB
    funext a b
    by_cases h1 : a = j
    · subst h1; simp only [upd, if_true, hij, if_false]; grind
    · by_cases h2 : a = i
      · subst h2; simp only [upd, if_true]; grind
      · simp only [upd, h1, h2, if_false]
  rw [← e, h4, h3, h2, h1]; grind
/-- Multiples of row r are added to all others. -/
theorem Alt.clear (hf : Alt n f) (A : Mx) (c : Nat → Fp) {r : Nat} (hr : r < n) : ∀ j, j ≤ n → f (fun i k => if i ≠ r ∧ i < j then A i k + c i * A r k else A i k) = f A
  | 0, _ => congrArg f (by funext a b; simp)
  | j + 1, h => by
    rw [← Alt.clear hf A c hr j (by omega)]
    by_cases e : j = r
    · subst e
      refine congrArg f ?_
      funext a b
      by_cases h1 : a ≠ j ∧ a < j
      · rw [if_pos h1, if_pos (by omega)]
      · rw [if_neg h1, if_neg (by omega)]
    · rw [← hf.addm (fun i k => if i ≠ r ∧ i < j then A i k + c i * A r k else A i k) j r (c j) (by omega) hr e]
      refine congrArg f ?_
      funext a b
      unfold upd
      by_cases h1 : a = j
      · subst h1
        simp only [if_true]
        rw [if_pos (by omega), if_neg (by omega), if_neg (by omega)]
      · simp only []
        rw [if_neg h1]
        by_cases h2 : a ≠ r ∧ a < j
        · rw [if_pos h2, if_pos (by omega)]
        · rw [if_neg h2, if_neg (by omega)]
end Go.Proofs.YtfljkcmijnhgkaaDoor

namespace Go.Proofs.YtfljkcmijnhgkaaDoor
/-- A matrix of numbers as one of residues. -/
def G (rs : List (List Int)) : Mx := fun i k => toF (gM rs i k)
def swapF (A : Mx) (i j : Nat) : Mx := fun a b => A (if a = j then i else if a = i then j else a) b
def clrF (A : Mx) (r k : Nat) : Mx := fun a b => if a = r then A r b * inv (A r k) else A a b - A a k * (A r b * inv (A r k))
theorem getD_set {α : Type} (l : List α) (d v : α) (i j : Nat) : (l.set i v).getD j d = if j = i ∧ i < l.length then v else l.getD j d := by
  rw [List.getD_eq_getElem?_getD, List.getElem?_set, List.getD_eq_getElem?_getD]
  by_cases h : i = j
  · subst h
    by_cases hl : i < l.length
    · rw [if_pos rfl, if_pos hl, if_pos ⟨rfl, hl⟩]; rfl
    · rw [if_pos rfl, if_neg hl, if_neg (fun h => hl h.2), List.getElem?_eq_none (by omega)]
  · rw [if_neg h, if_neg (fun h2 => h h2.1.symm)]
theorem G_swap {rs : List (List Int)} {i j : Nat} (hi : i < rs.length) (hj : j < rs.length) : G (swapM rs i j) = swapF (G rs) i j := by
  funext a b
  unfold G swapF gM swapM
  rw [getD_set, getD_set]
  by_cases h1 : a = j
  · rw [if_pos ⟨h1, by simpa using hj⟩, if_pos h1]
  · rw [if_neg (fun h => h1 h.1), if_neg h1]
    by_cases h2 : a = i
    · rw [if_pos ⟨h2, hi⟩, if_pos h2]
    · rw [if_neg (fun h => h2 h.1), if_neg h2]
theorem range_getD {f : Nat → Int} {n k : Nat} : ((List.range n).map f).getD k 0 = if k < n then f k else 0 := by
  rw [List.getD_eq_getElem?_getD, List.getElem?_map]
  by_cases h : k < n
  · rw [if_pos h, List.getElem?_range h]; rfl
  · rw [if_neg h, List.getElem?_eq_none (by simpa using h)]; rfl
theorem getD_none {l : List Int} {k : Nat} (h : l.length ≤ k) : l.getD k 0 = 0 := by
  rw [List.getD_eq_getElem?_getD, List.getElem?_eq_none h]; rfl
theorem scaleR_get (r : List Int) (x : Int) (k : Nat) : (scaleR r x).getD k 0 = r.getD k 0 * x % 65521 := by
  rw [scaleR, range_getD]
  split
  · rfl
  · rw [getD_none (by omega)]; simp
theorem subR_get {r own : List Int} (h : own.length = r.length) (x : Int) (k : Nat) : (subR r own x).getD k 0 = (r.getD k 0 + x * own.getD k 0) % 65521 := by
  rw [subR, range_getD]
  split
  · rfl
  · rw [getD_none (by omega), getD_none (by omega)]; simp
theorem G_clear {rs : List (List Int)} {n m r k : Nat} (h : okM rs n m) (hr : r < n) : G (clearM rs r k) = clrF (G rs) r k := by
  have hinv : toF (invN (gM rs r k)) = inv (G rs r k) := toF_inv (h.num r k)
  have hown : ∀ b, toF ((ownR rs r k).getD b 0) = G rs r b * inv (G rs r k) := fun b => by
    rw [ownR, scaleR_get, toF_emod, toF_mul, hinv]; rfl
  funext a b
  by_cases ha : a < n
  · have e : (clearM rs r k).getD a [] = if a = r then ownR rs r k else if gM rs a k = 0 then rs.getD a [] else subR (rs.getD a []) (ownR rs r k) (65521 - gM rs a k) := by
      rw [clearM, List.getD_eq_getElem?_getD, List.getElem?_map, List.getElem?_range (by rw [h.1]; exact ha)]; rfl
    unfold clrF
    by_cases h1 : a = r
    · rw [if_pos h1, ← hown b, G, gM, e, if_pos h1]
    · rw [if_neg h1, ← hown b, G, gM, e, if_neg h1]
      by_cases h2 : gM rs a k = 0
      · rw [if_pos h2, show G rs a k = 0 from by rw [G, h2, toF_zero]]
        show toF (gM rs a b) = toF (gM rs a b) - _
        grind
      · have hl : (ownR rs r k).length = (rs.getD a []).length := by rw [h.row ha]; rw [ownR]; simp [scaleR]; exact h.row hr
        rw [if_neg h2, subR_get hl, toF_emod, toF_add, toF_mul, toF_sub, toF_p]
        show toF (gM rs a b) + (0 - toF (gM rs a k)) * _ = toF (gM rs a b) - toF (gM rs a k) * _
        grind
  · have z : ∀ x, G rs a x = 0 := fun x => by
      rw [G, gM, List.getD_eq_getElem?_getD (l := rs), List.getElem?_eq_none (by rw [h.1]; omega)]; rfl
    unfold clrF
    rw [if_neg (by omega), z, z, G, gM, List.getD_eq_getElem?_getD (l := clearM rs r k), List.getElem?_eq_none (by simp [clearM, h.1]; omega)]
    show (0 : Fp) = 0 - 0 * _
    grind

/-- A sum of multiples of rows. -/
def Sp (n : Nat) (A : Mx) (v : Nat → Fp) : Prop := ∃ c : Nat → Fp, ∀ k, v k = S n (fun i => c i * A i k)
theorem Sp.row {n i : Nat} (A : Mx) (hi : i < n) : Sp n A (A i) :=
  ⟨fun j => if j = i then 1 else 0, fun k => by rw [S_one (k := i) hi (fun j _ hn => by simp only [hn, if_false]; grind)]; simp only [if_true]; grind⟩
theorem Sp.add {n : Nat} {A : Mx} {u v : Nat → Fp} (hu : Sp n A u) (hv : Sp n A v) (x y : Fp) : Sp n A (fun k => x * u k + y * v k) := by
  obtain ⟨c, hc⟩ := hu
  obtain ⟨d, hd⟩ := hv
  refine ⟨fun i => x * c i + y * d i, fun k => ?_⟩
  show x * u k + y * v k = S n (fun i => (x * c i + y * d i) * A i k)
  rw [hc, hd, ← S_mul, ← S_mul, ← S_add]
  exact S_congr fun i _ => by grind
theorem Sp.trans {n m : Nat} {A B : Mx} {v : Nat → Fp} (hv : Sp n A v) (h : ∀ i, i < n → Sp m B (A i)) : Sp m B v := by
  obtain ⟨c, hc⟩ := hv
  have h' : ∀ i, ∃ d : Nat → Fp, i < n → ∀ k, A i k = S m (fun j => d j * B j k) := fun i => by
    by_cases hi : i < n
    · obtain ⟨d, hd⟩ := h i hi; exact ⟨d, fun _ => hd⟩
    · exact ⟨fun _ => 0, fun h => absurd h hi⟩
  have hd := fun i => Classical.choose_spec (h' i)
  generalize (fun i => Classical.choose (h' i)) = d at hd
  refine ⟨fun j => S n (fun i => c i * Classical.choose (h' i) j), fun k => ?_⟩
  rw [hc, S_congr (g := fun i => S m (fun j => c i * (Classical.choose (h' i) j * B j k))) (fun i hi => by rw [hd i hi k, S_mul]), S_swap]
  refine S_congr fun j _ => ?_
  rw [← S_mul']
  exact S_congr fun i _ => by grind

/-- THE SHAPE behind some columns: r rows have their 1 in the columns c, in which all other rows have 0; elsewhere only such rows have something whose columns came before. -/
structure El (n : Nat) (before : Nat → Nat → Prop) (A : Mx) (r : Nat) (c : Nat → Nat) (done : List Nat) : Prop where
  le : r ≤ n
  mem : ∀ i, i < r → c i ∈ done
  pv : ∀ i, i < r → ∀ a, a < n → A a (c i) = if a = i then 1 else 0
  np : ∀ k, k ∈ done → (∀ i, i < r → c i ≠ k) → ∀ i, i < n → A i k ≠ 0 → i < r ∧ before (c i) k
  ord : ∀ i j, i < j → j < r → before (c i) (c j)
theorem El.none {n r k : Nat} {before : Nat → Nat → Prop} {A : Mx} {c : Nat → Nat} {done : List Nat} (h : El n before A r c done) (hz : ∀ a, r ≤ a → a < n → A a k = 0) (hb : ∀ x, x ∈ done → before x k) : El n before A r c (done ++ [k]) := by
  refine ⟨h.le, fun i hi => List.mem_append_left _ (h.mem i hi), h.pv, fun j hj hn i hi hne => ?_, h.ord⟩
  rcases List.mem_append.1 hj with hj | hj
  · exact h.np j hj hn i hi hne
  · have e : j = k := by simpa using hj
    subst e
    by_cases hir : i < r
    · exact ⟨hir, hb _ (h.mem i hir)⟩
    · exact absurd (hz i (by omega) hi) hne
theorem El.some {n r k p : Nat} {before : Nat → Nat → Prop} {A : Mx} {c : Nat → Nat} {done : List Nat} (h : El n before A r c done) (hp : r ≤ p) (hpn : p < n) (hne : A p k ≠ 0) (_hnd : k ∉ done) (hb : ∀ x, x ∈ done → before x k) :
    El n before (clrF (swapF A p r) r k) (r + 1) (fun i => if i = r then k else c i) (done ++ [k]) := by
  have hrow : swapF A p r r k ≠ 0 := by unfold swapF; rw [if_pos rfl]; exact hne
  have hm := mul_inv hrow
  refine ⟨by omega, fun i hi => ?_, fun i hi a ha => ?_, fun j hj hn i hi hnz => ?_, fun i j hij hj => ?_⟩
  · show (if i = r then k else c i) ∈ _
    split
    · simp
    · exact List.mem_append_left _ (h.mem i (by omega))
  · show clrF (swapF A p r) r k a (if i = r then k else c i) = _
    by_cases e : i = r
    · subst e
      rw [if_pos rfl]
      unfold clrF
      by_cases e2 : a = i
      · rw [if_pos e2, if_pos e2, hm]
      · rw [if_neg e2, if_neg e2, hm]; grind
    · have hi' : i < r := by omega
      have z1 : A p (c i) = 0 := by rw [h.pv i hi' p hpn, if_neg (by omega)]
      have z2 : swapF A p r r (c i) = 0 := by unfold swapF; rw [if_pos rfl]; exact z1
      rw [if_neg e]
      unfold clrF
      rw [z2]
      by_cases e2 : a = r
      · rw [if_pos e2, if_neg (by omega)]; grind
      · rw [if_neg e2]
        have z3 : swapF A p r a (c i) = if a = i then 1 else 0 := by
          unfold swapF
          rw [if_neg e2]
          by_cases e3 : a = p
          · rw [if_pos e3, h.pv i hi' r (by omega), if_neg (by omega), if_neg (by omega)]
          · rw [if_neg e3]; exact h.pv i hi' a ha
        rw [z3]; grind
  · have hjk : j ≠ k := fun e => (hn r (by omega)) (by rw [if_pos rfl, e])
    have hjd : j ∈ done := by
      rcases List.mem_append.1 hj with hj | hj
      · exact hj
      · exact absurd (by simpa using hj) hjk
    have hn' : ∀ i, i < r → c i ≠ j := fun i hi => by have := hn i (by omega); rwa [if_neg (by omega)] at this
    have zr : ∀ a, r ≤ a → a < n → A a j = 0 := fun a h1 h2 => Classical.byContradiction fun hc => by have := (h.np j hjd hn' a h2 hc).1; omega
    have z2 : swapF A p r r j = 0 := by unfold swapF; rw [if_pos rfl]; exact zr p hp hpn
    unfold clrF at hnz
    rw [z2] at hnz
    by_cases e2 : i = r
    · rw [if_pos e2] at hnz; exact absurd (by grind) hnz
    · rw [if_neg e2] at hnz
      have hnz2 : swapF A p r i j ≠ 0 := fun e => hnz (by rw [e]; grind)
      unfold swapF at hnz2
      rw [if_neg e2] at hnz2
      by_cases e3 : i = p
      · rw [if_pos e3] at hnz2; exact absurd (zr r (Nat.le_refl _) (by omega)) hnz2
      · rw [if_neg e3] at hnz2
        have := h.np j hjd hn' i hi hnz2
        exact ⟨by omega, by rw [if_neg e2]; exact this.2⟩
  · show before (if i = r then k else c i) (if j = r then k else c j)
    rw [if_neg (by omega)]
    split
    · exact hb _ (h.mem i (by omega))
    · exact h.ord i j hij (by omega)
theorem sp_swap {n p r : Nat} (A : Mx) (hp : p < n) (hr : r < n) : ∀ a, a < n → Sp n A (swapF A p r a) := fun a ha => Sp.row A (by split; exact hp; split; exact hr; exact ha)
theorem swap_swap (A : Mx) (p r : Nat) : swapF (swapF A p r) p r = A := by
  funext a b
  unfold swapF
  by_cases h1 : a = r
  · subst h1
    rw [if_pos rfl]
    by_cases h2 : p = a
    · rw [if_pos h2, h2]
    · rw [if_neg h2, if_pos rfl]
  · rw [if_neg h1]
    by_cases h2 : a = p
    · subst h2; rw [if_pos rfl, if_pos rfl]
    · rw [if_neg h2, if_neg h1, if_neg h2]
theorem sp_clr {n r k : Nat} (A : Mx) (hr : r < n) : ∀ a, a < n → Sp n A (clrF A r k a) := fun a ha => by
  by_cases h : a = r
  · have e : clrF A r k a = fun b => inv (A r k) * A r b + 0 * A r b := by funext b; unfold clrF; rw [if_pos h]; grind
    rw [e]; exact (Sp.row A hr).add (Sp.row A hr) _ _
  · have e : clrF A r k a = fun b => 1 * A a b + (- (A a k * inv (A r k))) * A r b := by funext b; unfold clrF; rw [if_neg h]; grind
    rw [e]; exact (Sp.row A ha).add (Sp.row A hr) _ _
theorem sp_unclr {n r k : Nat} (A : Mx) (hr : r < n) (hne : A r k ≠ 0) : ∀ a, a < n → Sp n (clrF A r k) (A a) := fun a ha => by
  have hm := mul_inv hne
  by_cases h : a = r
  · have e : A a = fun b => A r k * clrF A r k r b + 0 * clrF A r k r b := by funext b; unfold clrF; rw [if_pos rfl, h]; grind
    rw [e]; exact (Sp.row _ hr).add (Sp.row _ hr) _ _
  · have e : A a = fun b => 1 * clrF A r k a b + A a k * clrF A r k r b := by funext b; unfold clrF; rw [if_neg h, if_pos rfl]; grind
    rw [e]; exact (Sp.row _ ha).add (Sp.row _ hr) _ _
theorem alt_swap {n p r : Nat} {f : Mx → Fp} (hf : Alt n f) (A : Mx) (hp : p < n) (hr : r < n) : f (swapF A p r) = (if p = r then 1 else -1) * f A := by
  by_cases e : p = r
  · subst e
    rw [if_pos rfl, show swapF A p p = A from by funext a b; unfold swapF; split; rename_i h; rw [h]; rfl]; grind
  · rw [if_neg e, show swapF A p r = upd (upd A p (A r)) r (A p) from by funext a b; unfold swapF upd; split; rfl; split; rfl; rfl, hf.swap A hp hr e]; grind
theorem alt_clr {n r k : Nat} {f : Mx → Fp} (hf : Alt n f) (A : Mx) (hr : r < n) (hne : A r k ≠ 0) : A r k * f (clrF A r k) = f A := by
  have hm := mul_inv hne
  have h1 := hf.scale A r (inv (A r k)) hr
  have h2 := hf.clear (upd A r (fun b => inv (A r k) * A r b)) (fun i => - A i k) hr n (Nat.le_refl _)
  have e : f (clrF A r k) = f (fun i b => if i ≠ r ∧ i < n then upd A r (fun b => inv (A r k) * A r b) i b + - A i k * upd A r (fun b => inv (A r k) * A r b) r b else upd A r (fun b => inv (A r k) * A r b) i b) := by
    refine hf.congr _ _ fun a b ha _ => ?_
    unfold clrF upd
    by_cases h : a = r
    · simp only [h, if_true, ne_eq, not_true_eq_false, false_and, if_false]; grind
    · simp only [h, if_true, if_false, ne_eq, not_false_eq_true, true_and, ha]; grind
  rw [e, h2, h1]; grind

/-- WHAT AN ELIMINATION KEEPS. -/
structure Run (n m : Nat) (before : Nat → Nat → Prop) (A : Mx) (s : Sys) (done : List Nat) : Prop where
  ok : okM s.rows n m
  rowsOf : ∀ (i : Nat) (p : Nat × Nat), s.piv[i]? = some p → p.1 = i
  el : El n before (G s.rows) s.piv.length (fun i => (s.piv.getD i (0, 0)).2) done
  into : ∀ a, a < n → Sp n A (G s.rows a)
  back : ∀ a, a < n → Sp n (G s.rows) (A a)
  det : ∀ f, Alt n f → f A = toF s.det * (if s.turned then -1 else 1) * f (G s.rows)
  ne : toF s.det ≠ 0
  bd : 0 ≤ s.det ∧ s.det < 65521
theorem findP_spec (rs : List (List Int)) (k : Nat) : ∀ (f i : Nat), match findP rs k f i with
    | none => ∀ j, i ≤ j → j < i + f → gM rs j k = 0
    | some p => i ≤ p ∧ p < i + f ∧ gM rs p k ≠ 0
  | 0, i => by simp only [findP]; intro j h1 h2; omega
  | f + 1, i => by
    rw [findP]
    by_cases h : gM rs i k = 0
    · rw [if_pos h]
      have := findP_spec rs k f (i + 1)
      revert this
      split
      · intro h2 j h3 h4
        by_cases e : j = i
        · rw [e, h]
        · exact h2 j (by omega) (by omega)
      · rintro ⟨h2, h3, h4⟩; exact ⟨by omega, by omega, h4⟩
    · rw [if_neg h]; exact ⟨Nat.le_refl _, by omega, h⟩
theorem Run.step {n m k : Nat} {before : Nat → Nat → Prop} {A : Mx} {s : Sys} {done : List Nat} (h : Run n m before A s done) (hb : ∀ x, x ∈ done → before x k) (hk : k ∉ done) : Run n m before A (stepS s k) (done ++ [k]) := by
  have hsp := findP_spec s.rows k (s.rows.length - s.piv.length) s.piv.length
  have hle := h.el.le
  rw [h.ok.1] at hsp
  unfold stepS
  rw [h.ok.1]
  cases hf : findP s.rows k (n - s.piv.length) s.piv.length with
  | none =>
    rw [hf] at hsp
    exact ⟨h.ok, h.rowsOf, h.el.none (fun a h1 h2 => by show toF _ = 0; rw [hsp a h1 (by omega), toF_zero]) hb, h.into, h.back, h.det, h.ne, h.bd⟩
  | some p =>
    rw [hf] at hsp
    obtain ⟨h1, h2, h3⟩ := hsp
    have hpn : p < n := by omega
    have hrn : s.piv.length < n := by omega
    have hG : G (pivS s k p).rows = clrF (swapF (G s.rows) p s.piv.length) s.piv.length k := by
      show G (clearM (swapM s.rows p s.piv.length) s.piv.length k) = _
      rw [G_clear (okM_swap h.ok hpn hrn) hrn, G_swap (by rw [h.ok.1]; exact hpn) (by rw [h.ok.1]; exact hrn)]
    have hpk : swapF (G s.rows) p s.piv.length s.piv.length k = G s.rows p k := by unfold swapF; rw [if_pos rfl]
    have hne : G s.rows p k ≠ 0 := fun e => h3 ((toF_eq_zero (h.ok.num p k)).1 e)
    have hne2 : swapF (G s.rows) p s.piv.length s.piv.length k ≠ 0 := by rw [hpk]; exact hne
    have hdet : toF (pivS s k p).det = toF s.det * G s.rows p k := by
      show toF (s.det * gM (swapM s.rows p s.piv.length) s.piv.length k % 65521) = _
      rw [toF_emod, toF_mul]
      show _ * G (swapM s.rows p s.piv.length) s.piv.length k = _
      rw [G_swap (by rw [h.ok.1]; exact hpn) (by rw [h.ok.1]; exact hrn), hpk]
    have hlen : (pivS s k p).piv.length = s.piv.length + 1 := by simp [pivS]
    refine ⟨okM_clear (okM_swap h.ok hpn hrn) hrn, fun i q hq => ?_, ?_, fun a ha => ?_, fun a ha => ?_, fun f hA => ?_, ?_, ?_⟩
    · simp only [pivS] at hq
      by_cases hi : i < s.piv.length
      · rw [List.getElem?_append_left hi] at hq; exact h.rowsOf i q hq
      · have hlt := (List.getElem?_eq_some_iff.1 hq).1
        have e : i = s.piv.length := by simp at hlt; omega
        subst e
        rw [List.getElem?_append_right (Nat.le_refl _), Nat.sub_self] at hq
        cases hq; rfl
    · rw [hG, hlen]
      have hc : (fun i => ((pivS s k p).piv.getD i (0, 0)).2) = fun i => if i = s.piv.length then k else if i < s.piv.length then (s.piv.getD i (0, 0)).2 else 0 := by
        funext i
        simp only [pivS]
        rw [List.getD_eq_getElem?_getD, List.getD_eq_getElem?_getD]
        by_cases h4 : i < s.piv.length
        · rw [List.getElem?_append_left h4, if_neg (by omega), if_pos h4]
        · by_cases h5 : i = s.piv.length
          · subst h5; rw [List.getElem?_append_right (Nat.le_refl _), Nat.sub_self, if_pos rfl]; rfl
          · rw [if_neg h5, if_neg h4, List.getElem?_eq_none (by simp; omega)]; rfl
      have he := h.el.some h1 hpn hne hk hb
      rw [hc]
      refine ⟨he.le, fun i hi => ?_, fun i hi a ha => ?_, fun j hj hn i hi hnz => ?_, fun i j hij hj => ?_⟩
      · have := he.mem i hi
        by_cases e : i = s.piv.length
        · simp [e]
        · have hi' : i < s.piv.length := by omega
          simpa [e, hi'] using this
      · have := he.pv i hi a ha
        by_cases e : i = s.piv.length
        · simpa [e] using this
        · have hi' : i < s.piv.length := by omega
          simpa [e, hi'] using this
      · have := he.np j hj (fun i hi => by
          have := hn i hi
          by_cases e : i = s.piv.length
          · simpa [e] using this
          · have hi' : i < s.piv.length := by omega
            simpa [e, hi'] using this) i hi hnz
        refine ⟨this.1, ?_⟩
        have h2 := this.2
        by_cases e : i = s.piv.length
        · simpa [e] using h2
        · have hi' : i < s.piv.length := by omega
          simpa [e, hi'] using h2
      · have := he.ord i j hij hj
        have hi' : i < s.piv.length := by omega
        have hi2 : i ≠ s.piv.length := by omega
        by_cases e : j = s.piv.length
        · simpa [e, hi', hi2] using this
        · have hj' : j < s.piv.length := by omega
          simpa [e, hj', hi', hi2] using this
    · rw [hG]
      exact ((sp_clr _ hrn a ha).trans (sp_swap _ hpn hrn)).trans h.into
    · rw [hG]
      refine (h.back a ha).trans fun i hi => ?_
      have := sp_swap (swapF (G s.rows) p s.piv.length) hpn hrn i hi
      rw [swap_swap] at this
      exact this.trans (sp_unclr _ hrn hne2)
    · rw [h.det f hA, hdet, hG]
      have e1 := alt_swap hA (G s.rows) hpn hrn
      have e2 := alt_clr hA (swapF (G s.rows) p s.piv.length) hrn hne2
      rw [hpk] at e2
      have e3 : (if (pivS s k p).turned = true then (-1 : Fp) else 1) = (if s.turned = true then -1 else 1) * (if p = s.piv.length then 1 else -1) := by
        have e5 : (pivS s k p).turned = if p = s.piv.length then s.turned else !s.turned := rfl
        rw [e5]
        by_cases h4 : p = s.piv.length
        · simp only [h4, if_true]; grind
        · simp only [h4, if_false]; cases s.turned <;> decide
      have e4 : f (G s.rows) = (if p = s.piv.length then (1 : Fp) else -1) * f (swapF (G s.rows) p s.piv.length) := by
        rw [e1]; split <;> grind
      rw [e3, e4, ← e2]; grind
    · rw [hdet]
      intro e
      rcases mul_zero_cases e with e | e
      · exact h.ne e
      · exact hne e
    · exact ⟨Int.emod_nonneg _ (by decide), Int.emod_lt_of_pos _ (by decide)⟩
theorem Run.start {rs : List (List Int)} {n m : Nat} (h : okM rs n m) (before : Nat → Nat → Prop) : Run n m before (G rs) ⟨rs, [], 1, false⟩ [] := by
  refine ⟨h, fun i p hp => by simp at hp, ⟨by simp, fun i hi => by simp at hi, fun i hi => by simp at hi, fun k hk => by simp at hk, fun i j _ hj => by simp at hj⟩, fun a ha => Sp.row _ ha, fun a ha => Sp.row _ ha, fun f _ => ?_, one_ne_zero, (by decide : (0 : Int) ≤ 1 ∧ (1 : Int) < 65521)⟩
  show f (G rs) = toF 1 * (if false = true then -1 else 1) * f (G rs)
  rw [toF_one, if_neg (by decide)]; grind
end Go.Proofs.YtfljkcmijnhgkaaDoor

namespace Go.Proofs.YtfljkcmijnhgkaaDoor
theorem G_out {rs : List (List Int)} {n m : Nat} (h : okM rs n m) (a : Nat) {k : Nat} (hk : m ≤ k) : G rs a k = 0 := by
  unfold G gM
  by_cases ha : a < n
  · rw [getD_none (by rw [h.row ha]; exact hk)]; rfl
  · rw [List.getD_eq_getElem?_getD (l := rs), List.getElem?_eq_none (by rw [h.1]; omega)]; rfl
theorem Run.zero {n m : Nat} {before : Nat → Nat → Prop} {A : Mx} {s : Sys} {done : List Nat} (h : Run n m before A s done) {a k : Nat} (ha : s.piv.length ≤ a) (han : a < n) (hk : k ∈ done ∨ m ≤ k) : G s.rows a k = 0 := by
  rcases hk with hk | hk
  · by_cases hp : ∃ i, i < s.piv.length ∧ (s.piv.getD i (0, 0)).2 = k
    · obtain ⟨i, hi, rfl⟩ := hp
      rw [h.el.pv i hi a han, if_neg (by omega)]
    · refine Classical.byContradiction fun hne => ?_
      have := (h.el.np k hk (fun i hi e => hp ⟨i, hi, e⟩) a han hne).1
      omega
  · exact G_out h.ok a hk
end Go.Proofs.YtfljkcmijnhgkaaDoor
