/- The plain functions that the code of layer 16 computes. -/
namespace Go.Proofs.YtfljkcmijnhgkaaDoor

/-- Sums. -/
def psum (f : Nat → Int) : Nat → Int
  | 0 => 0
  | n + 1 => psum f n + f n
/-- The number in row i and column k. -/
def gM (a : List (List Int)) (i k : Nat) : Int := (a.getD i []).getD k 0
/-- The matrix of so many rows and columns that f tells. -/
def mat (f : Nat → Nat → Int) (n m : Nat) : List (List Int) := (List.range n).map fun i => (List.range m).map (f i)
/-- A matrix of so many rows and columns of residues. -/
def okM (a : List (List Int)) (n m : Nat) : Prop := a.length = n ∧ ∀ r ∈ a, r.length = m ∧ ∀ x ∈ r, 0 ≤ x ∧ x < 65521
def len0 (rs : List (List Int)) : Nat := (rs.getD 0 []).length
def prodE (a b : List (List Int)) (i k : Nat) : Int := psum (fun j => gM a i j * gM b j k % 65521) (a.getD i []).length % 65521
def prodM (a b : List (List Int)) : List (List Int) := mat (prodE a b) a.length (len0 b)
def idM (n : Nat) : List (List Int) := mat (fun i k => if i = k then 1 else 0) n n
def isN (x : Int) : Bool := decide (0 ≤ x) && decide (x < 65521)
/-- All numbers are residues. -/
def isRes (xs : List Int) : Bool := xs.all isN
/-- The error of a matrix. -/
def checkM (rs : List (List Int)) : Int :=
  if rs.length < 1 ∨ rs.length > 12 ∨ len0 rs < 1 ∨ len0 rs > 12 then 2
  else if (rs.any fun r => !(r.length == len0 rs)) = true then 4
  else if (rs.any fun r => !isRes r) = true then 3 else 0
def squareM (rs : List (List Int)) : Int := if checkM rs ≠ 0 then checkM rs else if rs.length ≠ len0 rs then 7 else 0
/-- Squares are multiplied. -/
def powF : Nat → List (List Int) → List (List Int) → Nat → List (List Int)
  | 0, out, _, _ => out
  | f + 1, out, a, n => if n = 0 then out else powF f (if n % 2 = 1 then prodM out a else out) (prodM a a) (n / 2)
def powMat (a : List (List Int)) (n : Nat) : List (List Int) := powF 64 (idM a.length) a n

/-- The residue that gives 1 with n. -/
def invN (n : Int) : Int := ((n.toNat ^ 65519 % 65521 : Nat) : Int)
def scaleR (r : List Int) (b : Int) : List Int := (List.range r.length).map fun j => r.getD j 0 * b % 65521
def subR (r own : List Int) (off : Int) : List Int := (List.range r.length).map fun j => (r.getD j 0 + off * own.getD j 0) % 65521
/-- The row of a pivot, with 1 at its place. -/
def ownR (rs : List (List Int)) (row col : Nat) : List Int := scaleR (rs.getD row []) (invN (gM rs row col))
def clearM (rs : List (List Int)) (row col : Nat) : List (List Int) :=
  (List.range rs.length).map fun i => if i = row then ownR rs row col else if gM rs i col = 0 then rs.getD i [] else subR (rs.getD i []) (ownR rs row col) (65521 - gM rs i col)
/-- A system at work. -/
structure Sys where
  rows : List (List Int)
  piv : List (Nat × Nat)
  det : Int
  turned : Bool
/-- The first row from i on (f rows at most) that has no 0 in column k. -/
def findP (rs : List (List Int)) (k : Nat) : Nat → Nat → Option Nat
  | 0, _ => none
  | f + 1, i => if gM rs i k = 0 then findP rs k f (i + 1) else some i
def swapM (rs : List (List Int)) (i j : Nat) : List (List Int) := (rs.set i (rs.getD j [])).set j (rs.getD i [])
/-- The pivot found in row i of column k is taken. -/
def pivS (s : Sys) (k i : Nat) : Sys :=
  let rs := swapM s.rows i s.piv.length
  { rows := clearM rs s.piv.length k, piv := s.piv ++ [(s.piv.length, k)], det := s.det * gM rs s.piv.length k % 65521, turned := if i = s.piv.length then s.turned else !s.turned }
def stepS (s : Sys) (k : Nat) : Sys :=
  match findP s.rows k (s.rows.length - s.piv.length) s.piv.length with
  | none => s
  | some i => pivS s k i
def solveS (rs : List (List Int)) (cols : List Nat) (t : Bool) : Sys := cols.foldl stepS ⟨rs, [], 1, t⟩
/-- A matrix with one column more. -/
def augM (rs : List (List Int)) (b : List Int) : List (List Int) := (List.range rs.length).map fun i => rs.getD i [] ++ [b.getD i 0]
/-- The system of rows and a right side, solved by the last columns first. -/
def sysM (rs : List (List Int)) (b : List Int) (cols : Nat) : Sys := solveS (augM rs b) (List.range cols).reverse false
/-- What the pivots tell of the unknowns. -/
def fillX (s : Sys) (cols : Nat) : List Int := s.piv.foldl (fun x p => x.set p.2 (gM s.rows p.1 cols)) (List.replicate cols 0)
/-- Nothing is left without a pivot. -/
def restOk (s : Sys) (cols : Nat) : Bool := (List.range s.rows.length).all fun i => decide (i < s.piv.length) || (gM s.rows i cols == 0)
def solvedM (rs : List (List Int)) (b : List Int) (cols : Nat) : Option (List Int) := if restOk (sysM rs b cols) cols then some (fillX (sysM rs b cols) cols) else none
theorem checkM_cases (rs : List (List Int)) : checkM rs = 0 ∨ checkM rs = 2 ∨ checkM rs = 3 ∨ checkM rs = 4 := by
  unfold checkM; split
  · simp
  · split
    · simp
    · split <;> simp
theorem isRes_iff {xs : List Int} : isRes xs = true ↔ ∀ x ∈ xs, 0 ≤ x ∧ x < 65521 := by
  simp [isRes, isN, List.all_eq_true]
theorem checkM_ok {rs : List (List Int)} (h : checkM rs = 0) : okM rs rs.length (len0 rs) ∧ 1 ≤ rs.length ∧ rs.length ≤ 12 ∧ 1 ≤ len0 rs ∧ len0 rs ≤ 12 := by
  unfold checkM at h
  split at h
  · cases h
  · rename_i h1
    split at h
    · cases h
    · rename_i h2
      split at h
      · cases h
      · rename_i h3
        refine ⟨⟨rfl, fun r hr => ?_⟩, by omega⟩
        simp only [List.any_eq_true, not_exists, not_and, Bool.not_eq_true, Bool.not_eq_false', beq_iff_eq] at h2 h3
        exact ⟨h2 r hr, isRes_iff.1 (h3 r hr)⟩
theorem squareM_ok {rs : List (List Int)} (h : squareM rs = 0) : okM rs rs.length rs.length ∧ 1 ≤ rs.length ∧ rs.length ≤ 12 := by
  unfold squareM at h
  split at h
  · contradiction
  · rename_i h1
    split at h
    · cases h
    · rename_i h2
      obtain ⟨h3, h4⟩ := checkM_ok (by simpa using h1)
      have e : rs.length = len0 rs := by simpa using h2
      rw [← e] at h3
      exact ⟨h3, h4.1, h4.2.1⟩
theorem squareM_cases (rs : List (List Int)) : squareM rs = 0 ∨ squareM rs = 2 ∨ squareM rs = 3 ∨ squareM rs = 4 ∨ squareM rs = 7 := by
  have := checkM_cases rs
  unfold squareM
  split
  · omega
  · split <;> simp
theorem okM.len {a : List (List Int)} {n m : Nat} (h : okM a n m) : a.length = n := h.1
theorem okM.row {a : List (List Int)} {n m : Nat} (h : okM a n m) {i : Nat} (hi : i < n) : (a.getD i []).length = m := by
  have hl : i < a.length := by rw [h.1]; exact hi
  rw [List.getD_eq_getElem?_getD, List.getElem?_eq_getElem hl]
  exact (h.2 _ (List.getElem_mem hl)).1
theorem okM.num {a : List (List Int)} {n m : Nat} (h : okM a n m) (i k : Nat) : 0 ≤ gM a i k ∧ gM a i k < 65521 := by
  unfold gM
  by_cases hi : i < a.length
  · rw [List.getD_eq_getElem?_getD (l := a), List.getElem?_eq_getElem hi]
    simp only [Option.getD_some]
    by_cases hk : k < (a[i]).length
    · rw [List.getD_eq_getElem?_getD, List.getElem?_eq_getElem hk]
      exact (h.2 _ (List.getElem_mem hi)).2 _ (List.getElem_mem hk)
    · rw [List.getD_eq_getElem?_getD, List.getElem?_eq_none (by omega)]; decide
  · rw [List.getD_eq_getElem?_getD (l := a), List.getElem?_eq_none (by omega)]; simp
theorem okM.len0 {a : List (List Int)} {n m : Nat} (h : okM a n m) (hn : 0 < n) : len0 a = m := h.row hn
theorem okM_mat (f : Nat → Nat → Int) (n m : Nat) (h : ∀ i k, i < n → k < m → 0 ≤ f i k ∧ f i k < 65521) : okM (mat f n m) n m := by
  refine ⟨by simp [mat], fun r hr => ?_⟩
  obtain ⟨i, hi, rfl⟩ := List.mem_map.1 hr
  refine ⟨by simp, fun x hx => ?_⟩
  obtain ⟨k, hk, rfl⟩ := List.mem_map.1 hx
  exact h i k (by simpa using hi) (by simpa using hk)
theorem mat_len (f : Nat → Nat → Int) (n m : Nat) : (mat f n m).length = n := by simp [mat]
theorem mat_getD (f : Nat → Nat → Int) {n m i : Nat} (hi : i < n) : (mat f n m).getD i [] = (List.range m).map (f i) := by
  rw [List.getD_eq_getElem?_getD, mat, List.getElem?_map, List.getElem?_range hi]; rfl
theorem gM_mat (f : Nat → Nat → Int) {n m i k : Nat} (hi : i < n) (hk : k < m) : gM (mat f n m) i k = f i k := by
  rw [gM, mat_getD f hi, List.getD_eq_getElem?_getD, List.getElem?_map, List.getElem?_range hk]; rfl
/-- What Mul and Power tell: the error, and the result. -/
def mulR (a b : List (List Int)) : Int × List (List Int) :=
  if checkM a ≠ 0 then (checkM a, []) else if checkM b ≠ 0 then (checkM b, []) else if len0 a ≠ b.length then (7, []) else (0, prodM a b)
def powR (a : List (List Int)) (n : Int) : Int × List (List Int) :=
  if squareM a ≠ 0 then (squareM a, []) else if n < 0 then (3, []) else (0, powMat a n.toNat)
theorem okM_prod {a b : List (List Int)} {n l m : Nat} (ha : okM a n l) (hb : okM b l m) (hl : 0 < l) : okM (prodM a b) n m := by
  have h : prodM a b = mat (prodE a b) n m := by rw [prodM, ha.1, hb.len0 hl]
  rw [h]
  exact okM_mat _ _ _ fun i k _ _ => ⟨Int.emod_nonneg _ (by decide), Int.emod_lt_of_pos _ (by decide)⟩
theorem okM_id (n : Nat) : okM (idM n) n n := okM_mat _ _ _ fun i k _ _ => by split <;> decide
theorem psum_bd {f : Nat → Int} (h : ∀ j, 0 ≤ f j ∧ f j < 65521) (n : Nat) : 0 ≤ psum f n ∧ psum f n ≤ 65520 * n := by
  induction n with
  | zero => exact ⟨Int.le_refl _, by simp [psum]⟩
  | succ n ih => have := h n; simp only [psum]; omega
theorem psum_congr {f g : Nat → Int} {n : Nat} (h : ∀ j, j < n → f j = g j) : psum f n = psum g n := by
  induction n with
  | zero => rfl
  | succ n ih => simp only [psum]; rw [ih (fun j hj => h j (by omega)), h n (by omega)]
end Go.Proofs.YtfljkcmijnhgkaaDoor
