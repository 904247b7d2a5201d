/- Lemmas on numbers and lists that the walks use. The plain functions that the code of layer 16 computes. What slices read as: words on memory for the walks. Rows and matrices that a call has made itself. Matrices of the call's own, their rows' values told: written in place. -/
import Derived.WalkKit
import Derived.WalkSpells
import Derived.Lib.Hide
import Derived.Maps.AppendAt
import Derived.Test.YtfljkcmijnhgkaaDoorProg
import Derived.OneCell
import Derived.Deep.AppendLies
import Derived.KernelRfl
namespace Go.Proofs.YtfljkcmijnhgkaaDoor
open Go.RowKit
theorem i64_and_one {b : Int} (h0 : 0 ≤ b) (h1 : b ≤ 9223372036854775807) : bits BinOp.and IntKind.i64 b 1 = b % 2 := by
  have two63 : (2 : Int) ^ 63 = 9223372036854775808 := by decide
  have h := bits_mask .i64 63 (by decide) (fun n h0 h1 => by rw [two63] at h1; rw [IntKind.wrap_i64]; omega) 1 (by decide) b h0 (by rw [two63]; omega)
  have e : ((2 : Int) ^ 1 - 1) = 1 := by decide
  rw [e] at h
  exact h

/-- A product of two residues is small. -/
theorem mul_bd {a b : Int} (ha : 0 ≤ a) (ha2 : a < 65521) (hb : 0 ≤ b) (hb2 : b < 65521) : 0 ≤ a * b ∧ a * b ≤ 4292870400 := by
  have h1 : 0 ≤ a * b := Int.mul_nonneg ha hb
  have h2 : a * b ≤ 65520 * 65520 := Int.mul_le_mul (by omega) (by omega) hb (by omega)
  exact ⟨h1, by omega⟩
theorem pow_two_ (a : Int) : a ^ 2 = a * a := by rw [Int.pow_succ, Int.pow_succ]; simp
theorem emod_pow_ (a m : Int) (n : Nat) : (a % m) ^ n % m = a ^ n % m := by
  induction n with
  | zero => simp
  | succ n ih => rw [Int.pow_succ, Int.pow_succ, Int.mul_emod, ih, Int.emod_emod_of_dvd _ (Int.dvd_refl _), ← Int.mul_emod]
/-- One step of 'squares are multiplied'. -/
theorem pow_even (c a b : Int) (hb : 0 < b) (h2 : b % 2 = 0) : c * (a * a % 65521) ^ (b / 2).toNat % 65521 = c * a ^ b.toNat % 65521 := by
  have e : b.toNat = 2 * (b / 2).toNat := by omega
  rw [e, Int.pow_mul, Int.mul_emod, emod_pow_, ← Int.mul_emod, pow_two_]
theorem pow_odd (c a b : Int) (hb : 0 < b) (h2 : b % 2 = 1) : c * a % 65521 * (a * a % 65521) ^ (b / 2).toNat % 65521 = c * a ^ b.toNat % 65521 := by
  have e : b.toNat = 2 * (b / 2).toNat + 1 := by omega
  rw [e, Int.pow_succ, Int.pow_mul, Int.mul_emod, emod_pow_, Int.emod_emod_of_dvd _ (Int.dvd_refl _), ← Int.mul_emod, pow_two_]
  congr 1; simp only [Int.mul_assoc, Int.mul_comm]
end Go.Proofs.YtfljkcmijnhgkaaDoor

namespace Go.Proofs.YtfljkcmijnhgkaaDoor
/-- Sums. -/
def psum (f : Nat → Int) : Nat → Int
  | 0 => 0
  | n + 1 => psum f n + f n
/-- The number in row i and column k. -/
def gM (a : List (List Int)) (i k : Nat) : Int := (a.getD i []).getD k 0
/-- The matrix of so many rows and columns that f tells. -/
def mat (f : Nat → Nat → Int) (n m : Nat) : List (List Int) := (List.range n).map fun i => (List.range m).map (f i)
/-- A matrix of so many rows and columns of residues. -/
def okM (a : List (List Int)) (n m : Nat) : Prop := a.length = n ∧ ∀ r ∈ a, r.length = m ∧ ∀ x ∈ r, 0 ≤ x ∧ x < 65521
def len0 (rs : List (List Int)) : Nat := (rs.getD 0 []).length
def prodE (a b : List (List Int)) (i k : Nat) : Int := psum (fun j => gM a i j * gM b j k % 65521) (a.getD i []).length % 65521
def prodM (a b : List (List Int)) : List (List Int) := mat (prodE a b) a.length (len0 b)
def idM (n : Nat) : List (List Int) := mat (fun i k => if i = k then 1 else 0) n n
def isN (x : Int) : Bool := decide (0 ≤ x) && decide (x < 65521)
/-- All numbers are residues. -/
def isRes (xs : List Int) : Bool := xs.all isN
/-- The error of a matrix. -/
def checkM (rs : List (List Int)) : Int :=
  if rs.length < 1 ∨ rs.length > 12 ∨ len0 rs < 1 ∨ len0 rs > 12 then 2
  else if (rs.any fun r => !(r.length == len0 rs)) = true then 4
  else if (rs.any fun r => !isRes r) = true then 3 else 0
def squareM (rs : List (List Int)) : Int := if checkM rs ≠ 0 then checkM rs else if rs.length ≠ len0 rs then 7 else 0
/-- Squares are multiplied. -/
def powF : Nat → List (List Int) → List (List Int) → Nat → List (List Int)
  | 0, out, _, _ => out
  | f + 1, out, a, n => if n = 0 then out else powF f (if n % 2 = 1 then prodM out a else out) (prodM a a) (n / 2)
def powMat (a : List (List Int)) (n : Nat) : List (List Int) := powF 64 (idM a.length) a n

/-- The residue that gives 1 with n. -/
def invN (n : Int) : Int := ((n.toNat ^ 65519 % 65521 : Nat) : Int)
def scaleR (r : List Int) (b : Int) : List Int := (List.range r.length).map fun j => r.getD j 0 * b % 65521
def subR (r own : List Int) (off : Int) : List Int := (List.range r.length).map fun j => (r.getD j 0 + off * own.getD j 0) % 65521
/-- The row of a pivot, with 1 at its place. -/
def ownR (rs : List (List Int)) (row col : Nat) : List Int := scaleR (rs.getD row []) (invN (gM rs row col))
def clearM (rs : List (List Int)) (row col : Nat) : List (List Int) :=
  (List.range rs.length).map fun i => if i = row then ownR rs row col else if gM rs i col = 0 then rs.getD i [] else subR (rs.getD i []) (ownR rs row col) (65521 - gM rs i col)
/-- A system at work. -/
structure Sys where
  rows : List (List Int)
  piv : List (Nat × Nat)
  det : Int
  turned : Bool
/-- The first row from i on (f rows at most) that has no 0 in column k. -/
def findP (rs : List (List Int)) (k : Nat) : Nat → Nat → Option Nat
  | 0, _ => none
  | f + 1, i => if gM rs i k = 0 then findP rs k f (i + 1) else some i
def swapM (rs : List (List Int)) (i j : Nat) : List (List Int) := (rs.set i (rs.getD j [])).set j (rs.getD i [])
/-- The pivot found in row i of column k is taken. -/
def pivS (s : Sys) (k i : Nat) : Sys :=
  let rs := swapM s.rows i s.piv.length
  { rows := clearM rs s.piv.length k, piv := s.piv ++ [(s.piv.length, k)], det := s.det * gM rs s.piv.length k % 65521, turned := if i = s.piv.length then s.turned else !s.turned }
def stepS (s : Sys) (k : Nat) : Sys :=
  match findP s.rows k (s.rows.length - s.piv.length) s.piv.length with
  | none => s
  | some i => pivS s k i
def solveS (rs : List (List Int)) (cols : List Nat) (t : Bool) : Sys := cols.foldl stepS ⟨rs, [], 1, t⟩
/-- A matrix with one column more. -/
def augM (rs : List (List Int)) (b : List Int) : List (List Int) := (List.range rs.length).map fun i => rs.getD i [] ++ [b.getD i 0]
/-- The system of rows and a right side, solved by the last columns first. -/
def sysM (rs : List (List Int)) (b : List Int) (cols : Nat) : Sys := solveS (augM rs b) (List.range cols).reverse false
/-- What the pivots tell of the unknowns. -/
def fillX (s : Sys) (cols : Nat) : List Int := s.piv.foldl (fun x p => x.set p.2 (gM s.rows p.1 cols)) (List.replicate cols 0)
/-- Nothing is left without a pivot. -/
def restOk (s : Sys) (cols : Nat) : Bool := (List.range s.rows.length).all fun i => decide (i < s.piv.length) || (gM s.rows i cols == 0)
def solvedM (rs : List (List Int)) (b : List Int) (cols : Nat) : Option (List Int) := if restOk (sysM rs b cols) cols then some (fillX (sysM rs b cols) cols) else none
theorem checkM_cases (rs : List (List Int)) : checkM rs = 0 ∨ checkM rs = 2 ∨ checkM rs = 3 ∨ checkM rs = 4 := by
  unfold checkM; split
  · simp
  · split
    · simp
    · split <;> simp
theorem isRes_iff {xs : List Int} : isRes xs = true ↔ ∀ x ∈ xs, 0 ≤ x ∧ x < 65521 := by
  simp [isRes, isN, List.all_eq_true]
theorem checkM_ok {rs : List (List Int)} (h : checkM rs = 0) : okM rs rs.length (len0 rs) ∧ 1 ≤ rs.length ∧ rs.length ≤ 12 ∧ 1 ≤ len0 rs ∧ len0 rs ≤ 12 := by
  unfold checkM at h
  split at h
  · cases h
  · rename_i h1
    split at h
    · cases h
    · rename_i h2
      split at h
      · cases h
      · rename_i h3
        refine ⟨⟨rfl, fun r hr => ?_⟩, by omega⟩
        simp only [List.any_eq_true, not_exists, not_and, Bool.not_eq_true, Bool.not_eq_false', beq_iff_eq] at h2 h3
        exact ⟨h2 r hr, isRes_iff.1 (h3 r hr)⟩
theorem squareM_ok {rs : List (List Int)} (h : squareM rs = 0) : okM rs rs.length rs.length ∧ 1 ≤ rs.length ∧ rs.length ≤ 12 := by
  unfold squareM at h
  split at h
  · contradiction
  · rename_i h1
    split at h
    · cases h
    · rename_i h2
      obtain ⟨h3, h4⟩ := checkM_ok (by simpa using h1)
      have e : rs.length = len0 rs := by simpa using h2
      rw [← e] at h3
      exact ⟨h3, h4.1, h4.2.1⟩
theorem squareM_cases (rs : List (List Int)) : squareM rs = 0 ∨ squareM rs = 2 ∨ squareM rs = 3 ∨ squareM rs = 4 ∨ squareM rs = 7 := by
  have := checkM_cases rs
  unfold squareM
  split
  · omega
  · split <;> simp
theorem okM.len {a : List (List Int)} {n m : Nat} (h : okM a n m) : a.length = n := h.1
theorem okM.row {a : List (List Int)} {n m : Nat} (h : okM a n m) {i : Nat} (hi : i < n) : (a.getD i []).length = m := by
  have hl : i < a.length := by rw [h.1]; exact hi
  rw [List.getD_eq_getElem?_getD, List.getElem?_eq_getElem hl]
  exact (h.2 _ (List.getElem_mem hl)).1
theorem okM.num {a : List (List Int)} {n m : Nat} (h : okM a n m) (i k : Nat) : 0 ≤ gM a i k ∧ gM a i k < 65521 := by
  unfold gM
  by_cases hi : i < a.length
  · rw [List.getD_eq_getElem?_getD (l := a), List.getElem?_eq_getElem hi]
    simp only [Option.getD_some]
    by_cases hk : k < (a[i]).length
    · rw [List.getD_eq_getElem?_getD, List.getElem?_eq_getElem hk]
      exact (h.2 _ (List.getElem_mem hi)).2 _ (List.getElem_mem hk)
    · rw [List.getD_eq_getElem?_getD, List.getElem?_eq_none (by omega)]; decide
  · rw [List.getD_eq_getElem?_getD (l := a), List.getElem?_eq_none (by omega)]; simp
theorem okM.len0 {a : List (List Int)} {n m : Nat} (h : okM a n m) (hn : 0 < n) : len0 a = m := h.row hn
theorem okM_mat (f : Nat → Nat → Int) (n m : Nat) (h : ∀ i k, i < n → k < m → 0 ≤ f i k ∧ f i k < 65521) : okM (mat f n m) n m := by
  refine ⟨by simp [mat], fun r hr => ?_⟩
  obtain ⟨i, hi, rfl⟩ := List.mem_map.1 hr
  refine ⟨by simp, fun x hx => ?_⟩
  obtain ⟨k, hk, rfl⟩ := List.mem_map.1 hx
  exact h i k (by simpa using hi) (by simpa using hk)
/-- What Mul and Power tell: the error, and the result. -/
def mulR (a b : List (List Int)) : Int × List (List Int) :=
  if checkM a ≠ 0 then (checkM a, []) else if checkM b ≠ 0 then (checkM b, []) else if len0 a ≠ b.length then (7, []) else (0, prodM a b)
def powR (a : List (List Int)) (n : Int) : Int × List (List Int) :=
  if squareM a ≠ 0 then (squareM a, []) else if n < 0 then (3, []) else (0, powMat a n.toNat)
theorem okM_prod {a b : List (List Int)} {n l m : Nat} (ha : okM a n l) (hb : okM b l m) (hl : 0 < l) : okM (prodM a b) n m := by
  have h : prodM a b = mat (prodE a b) n m := by rw [prodM, ha.1, hb.len0 hl]
  rw [h]
  exact okM_mat _ _ _ fun i k _ _ => ⟨Int.emod_nonneg _ (by decide), Int.emod_lt_of_pos _ (by decide)⟩
theorem okM_id (n : Nat) : okM (idM n) n n := okM_mat _ _ _ fun i k _ _ => by split <;> decide
theorem psum_bd {f : Nat → Int} (h : ∀ j, 0 ≤ f j ∧ f j < 65521) (n : Nat) : 0 ≤ psum f n ∧ psum f n ≤ 65520 * n := by
  induction n with
  | zero => exact ⟨Int.le_refl _, by simp [psum]⟩
  | succ n ih => have := h n; simp only [psum]; omega
theorem psum_congr {f g : Nat → Int} {n : Nat} (h : ∀ j, j < n → f j = g j) : psum f n = psum g n := by
  induction n with
  | zero => rfl
  | succ n ih => simp only [psum]; rw [ih (fun j hj => h j (by omega)), h n (by omega)]
end Go.Proofs.YtfljkcmijnhgkaaDoor

namespace Go.Proofs.YtfljkcmijnhgkaaDoor
open Go.RowKit
/-- THE SLICE v READS AS THE VALUES vs (each of one cell). -/
def RdV (w : World) (v : Value) (vs : List Value) : Prop :=
  ∃ (A : Option Addr) (c : Nat), v = .slice A vs.length c ∧ vs.length ≤ c ∧ vs.length ≤ 140737488355328 ∧
    (0 < vs.length → ∃ b off, A = some ⟨b, off, none⟩ ∧ ∀ j u, vs[j]? = some u → w.cell? ⟨b, off + j, none⟩ = some u)
def ints (xs : List Int) : List Value := xs.map (Value.int .i64)
/-- THE SLICE v READS AS THE NUMBERS xs. -/
def RdI (w : World) (v : Value) (xs : List Int) : Prop := RdV w v (ints xs)
/-- THE SLICE v READS AS THE ROWS rs. -/
def RdM (w : World) (v : Value) (rs : List (List Int)) : Prop :=
  ∃ vs : List Value, RdV w v vs ∧ vs.length = rs.length ∧ ∀ (j : Nat) (r : List Int) (u : Value), rs[j]? = some r → vs[j]? = some u → RdI w u r

theorem ints_len (xs : List Int) : (ints xs).length = xs.length := by simp [ints]
theorem ints_get (xs : List Int) (j : Nat) : (ints xs)[j]? = (xs[j]?).map (Value.int .i64) := by simp [ints]
theorem ints_append (xs ys : List Int) : ints (xs ++ ys) = ints xs ++ ints ys := by simp [ints]

theorem RdV.below {w w' : World} {v : Value} {vs : List Value} (h : RdV w v vs) {B : Nat} (hb : Below B w w') (hB : w.heap.size ≤ B) : RdV w' v vs := by
  obtain ⟨A, c, e, h1, h2, h3⟩ := h
  refine ⟨A, c, e, h1, h2, fun hp => ?_⟩
  obtain ⟨b, off, e2, h4⟩ := h3 hp
  exact ⟨b, off, e2, fun j u hj => (hb.cell (p := ⟨b, off + j, none⟩) (by have := World.block_lt_of_cell? w _ (h4 j u hj); simp at this; simp; omega)).trans (h4 j u hj)⟩
theorem RdI.below {w w' : World} {v : Value} {xs : List Int} (h : RdI w v xs) {B : Nat} (hb : Below B w w') (hB : w.heap.size ≤ B) : RdI w' v xs := RdV.below h hb hB
theorem RdM.below {w w' : World} {v : Value} {rs : List (List Int)} (h : RdM w v rs) {B : Nat} (hb : Below B w w') (hB : w.heap.size ≤ B) : RdM w' v rs := by
  obtain ⟨vs, h1, h2, h3⟩ := h
  exact ⟨vs, h1.below hb hB, h2, fun j r u hr hu => (h3 j r u hr hu).below hb hB⟩
/-- A slice of so many numbers at its place. -/
theorem RdI.open_ {w : World} {v : Value} {xs : List Int} (h : RdI w v xs) : ∃ (A : Option Addr) (c : Nat), v = .slice A xs.length c ∧ xs.length ≤ c ∧ xs.length ≤ 140737488355328 ∧
    (∀ k, k < xs.length → ∃ b off, A = some ⟨b, off, none⟩ ∧ w.cell? ⟨b, off + k, none⟩ = some (.int .i64 (xs.getD k 0))) := by
  obtain ⟨A, c, e, h1, h2, h3⟩ := h
  rw [ints_len] at *
  refine ⟨A, c, e, h1, h2, fun k hk => ?_⟩
  obtain ⟨b, off, e2, h4⟩ := h3 (by omega)
  exact ⟨b, off, e2, h4 k _ (by rw [ints_get, List.getElem?_eq_getElem hk]; simp [List.getD_eq_getElem?_getD, hk])⟩
/-- Rows at their place. -/
theorem RdM.open_ {w : World} {v : Value} {rs : List (List Int)} (h : RdM w v rs) : ∃ (A : Option Addr) (c : Nat), v = .slice A rs.length c ∧ rs.length ≤ c ∧ rs.length ≤ 140737488355328 ∧
    (∀ k, k < rs.length → ∃ b off u, A = some ⟨b, off, none⟩ ∧ w.cell? ⟨b, off + k, none⟩ = some u ∧ RdI w u (rs.getD k [])) := by
  obtain ⟨vs, ⟨A, c, e, h1, h2, h3⟩, hl, h4⟩ := h
  refine ⟨A, c, hl ▸ e, by omega, by omega, fun k hk => ?_⟩
  obtain ⟨b, off, e2, h5⟩ := h3 (by omega)
  have hu : vs[k]? = some vs[k] := List.getElem?_eq_getElem (by omega)
  exact ⟨b, off, vs[k], e2, h5 k _ hu, h4 k _ _ (by rw [List.getD_eq_getElem?_getD, List.getElem?_eq_getElem hk]; simp) hu⟩
theorem RdI.cell_ {w : World} {v : Value} {xs : List Int} (h : RdI w v xs) : ∃ (A : Option Addr) (c : Nat), v = .slice A xs.length c ∧ xs.length ≤ c ∧ xs.length ≤ 140737488355328 := by
  obtain ⟨A, c, e, h1, h2, _⟩ := h.open_
  exact ⟨A, c, e, h1, h2⟩
theorem cell_new (w : World) (v : Value) (t : TypeId) : (w.alloc (.cells #[v] t)).cell? ⟨w.heap.size, 0, none⟩ = some v := by
  simp only [World.cell?, heap_alloc_new]; rfl
end Go.Proofs.YtfljkcmijnhgkaaDoor

namespace Go.Proofs.YtfljkcmijnhgkaaDoor
open Go.RowKit
theorem infoI : (Tryd.prog.info? 3).map (fun i => (i.zero, i.size, i.bytes)) = some (some (.int .i64 0), 1, 8) := by kernel_rfl
theorem infoR : (Tryd.prog.info? 23).map (fun i => (i.zero, i.size, i.bytes)) = some (some (.slice none 0 0), 1, 24) := by kernel_rfl

theorem Below.then_ {w W W2 : World} (h : Below w.heap.size w W) (h2 : Below W.heap.size W W2) : Below w.heap.size w W2 := h.trans (h2.mono h.size)
theorem grown_of_below {w w1 : World} (h : Below w.heap.size w w1) (row : Option Nat) : w.grownBy w1 row := ⟨h.os, h.tape, h.output, h.size, fun i hi _ => h.block i hi⟩
theorem own_below {w w1 : World} {base : Nat} {e : TypeId} {size : Nat} {v : Value} {n : Nat} {xs : List Value} (h : w.ownsRow base e size v n xs) (hb : Below w.heap.size w w1) : w1.ownsRow base e size v n xs :=
  h.kept (grown_of_below hb none) (by cases v.ownBlock <;> simp)
theorem own_base {w : World} {base base' : Nat} {e : TypeId} {size : Nat} {v : Value} {n : Nat} {xs : List Value} (h : w.ownsRow base e size v n xs) (hb : base' ≤ base) : w.ownsRow base' e size v n xs := by
  refine ⟨h.1, ?_⟩
  rcases h.2 with h | ⟨g, cap, cur, h1, h2, h3⟩
  · exact .inl h
  · exact .inr ⟨g, cap, cur, h1, Nat.le_trans hb h2, h3⟩
theorem own_ne {w : World} {b b' : Nat} {e e' : TypeId} {s s' n n' : Nat} {v v' : Value} {xs xs' : List Value} (h : w.ownsRow b e s v n xs) (h' : w.ownsRow b' e' s' v' n' xs') (hne : e ≠ e') : v.ownBlock = none ∨ v.ownBlock ≠ v'.ownBlock := by
  rcases h.2 with ⟨rfl, _⟩ | ⟨g, cap, cur, rfl, _, hh, _⟩
  · exact .inl rfl
  · refine .inr fun hk => ?_
    rcases h'.2 with ⟨rfl, _⟩ | ⟨g', cap', cur', rfl, _, hh', _⟩
    · simp [Value.ownBlock] at hk
    · have : g = g' := by simpa [Value.ownBlock] using hk
      subst this
      rw [hh] at hh'
      injection hh' with hh'
      injection hh' with _ ht
      exact hne ht
/-- What is owned is read. -/
theorem own_RdV {w : World} {base : Nat} {e : TypeId} {v : Value} {n : Nat} {vs : List Value} (h : w.ownsRow base e 1 v n vs) (hn : n ≤ 140737488355328) : RdV w v vs := by
  have hl : vs.length = n := by have := h.1; omega
  rcases h.2 with ⟨rfl, rfl⟩ | ⟨g, cap, cur, rfl, hb, hg, hc, _⟩
  · exact ⟨none, 0, by rw [hl], by omega, by omega, fun hp => by omega⟩
  · refine ⟨_, cap, by rw [hl], by omega, by omega, fun hp => ⟨g, 0, rfl, fun j u hj => ?_⟩⟩
    rw [Nat.zero_add, h.cellAt j (by have := (List.getElem?_eq_some_iff.1 hj).1; omega)]
    exact hj

/-- A ROW OF NUMBERS OF THE CALL'S OWN. -/
def OwnI (w : World) (base : Nat) (v : Value) (xs : List Int) : Prop := w.ownsRow base 3 1 v xs.length (ints xs)
theorem OwnI.rd {w : World} {base : Nat} {v : Value} {xs : List Int} (h : OwnI w base v xs) (hn : xs.length ≤ 140737488355328) : RdI w v xs := own_RdV h hn
theorem OwnI.below {w w1 : World} {base : Nat} {v : Value} {xs : List Int} (h : OwnI w base v xs) (hb : Below w.heap.size w w1) : OwnI w1 base v xs := own_below h hb
theorem OwnI.base {w : World} {base base' : Nat} {v : Value} {xs : List Int} (h : OwnI w base v xs) (hb : base' ≤ base) : OwnI w base' v xs := own_base h hb
/-- A MATRIX OF THE CALL'S OWN: rows that share nothing. -/
def OwnM (w : World) (base : Nat) (v : Value) (rs : List (List Int)) : Prop :=
  ∃ vs : List Value, w.ownsRow base 23 1 v rs.length vs ∧ (∀ (j : Nat) (r : List Int) (u : Value), rs[j]? = some r → vs[j]? = some u → OwnI w base u r) ∧
    (∀ (i j : Nat) (u u' : Value), i ≠ j → vs[i]? = some u → vs[j]? = some u' → u.ownBlock = none ∨ u.ownBlock ≠ u'.ownBlock)
theorem OwnM.below {w w1 : World} {base : Nat} {v : Value} {rs : List (List Int)} (h : OwnM w base v rs) (hb : Below w.heap.size w w1) : OwnM w1 base v rs := by
  obtain ⟨vs, h1, h2, h3⟩ := h
  exact ⟨vs, own_below h1 hb, fun j r u hr hu => (h2 j r u hr hu).below hb, h3⟩
theorem OwnM.base {w : World} {base base' : Nat} {v : Value} {rs : List (List Int)} (h : OwnM w base v rs) (hb : base' ≤ base) : OwnM w base' v rs := by
  obtain ⟨vs, h1, h2, h3⟩ := h
  exact ⟨vs, own_base h1 hb, fun j r u hr hu => (h2 j r u hr hu).base hb, h3⟩
theorem OwnM.rd {w : World} {base : Nat} {v : Value} {rs : List (List Int)} (h : OwnM w base v rs) (hn : rs.length ≤ 140737488355328) (hm : ∀ r ∈ rs, r.length ≤ 140737488355328) : RdM w v rs := by
  obtain ⟨vs, h1, h2, h3⟩ := h
  exact ⟨vs, own_RdV h1 hn, by have := h1.1; omega, fun j r u hr hu => (h2 j r u hr hu).rd (hm r (List.mem_of_getElem? hr))⟩
/-- Row i of an own matrix. -/
theorem OwnM.row {w : World} {base : Nat} {v : Value} {rs : List (List Int)} (h : OwnM w base v rs) {i : Nat} {r : List Int} (hi : rs[i]? = some r) : ∃ g c u, v = .slice (some ⟨g, 0, none⟩) rs.length c ∧ base ≤ g ∧ g < w.heap.size ∧ w.cell? ⟨g, i, none⟩ = some u ∧ w.frozen? ⟨g, i, none⟩ = false ∧ OwnI w base u r ∧ u.ownBlock ≠ some g := by
  obtain ⟨vs, h1, h2, h3⟩ := h
  have hlt := (List.getElem?_eq_some_iff.1 hi).1
  obtain ⟨g, c, rfl, hb, hg⟩ := h1.form (by omega)
  have hl : vs.length = rs.length := by have := h1.1; omega
  have hu : vs[i]? = some vs[i] := List.getElem?_eq_getElem (by omega)
  have ho := h2 i r _ hi hu
  refine ⟨g, c, vs[i], rfl, hb, hg, by rw [h1.cellAt i (by omega)]; exact hu, h1.frozenAt i, ho, fun e => ?_⟩
  rcases own_ne ho h1 (by decide) with h | h
  · rw [h] at e; cases e
  · exact h e
theorem OwnM.row' {w : World} {base g n c : Nat} {rs : List (List Int)} (h : OwnM w base (.slice (some ⟨g, 0, none⟩) n c) rs) {i : Nat} {r : List Int} (hi : rs[i]? = some r) : base ≤ g ∧ g < w.heap.size ∧ ∃ u, w.cell? ⟨g, i, none⟩ = some u ∧ w.frozen? ⟨g, i, none⟩ = false ∧ OwnI w base u r ∧ u.ownBlock ≠ some g := by
  obtain ⟨g', c', u, e, h1, h2, h3, h4, h5, h6⟩ := h.row hi
  simp only [Value.slice.injEq, Option.some.injEq, Addr.mk.injEq, and_true] at e
  obtain ⟨rfl, _, _⟩ := e
  exact ⟨h1, h2, u, h3, h4, h5, h6⟩
/-- Row i is another one now, in memory of its own, and its place tells so. -/
theorem OwnM.upd {w w1 : World} {base g c n : Nat} {rs : List (List Int)} (h : OwnM w base (.slice (some ⟨g, 0, none⟩) n c) rs) {i : Nat} {r r' : List Int} {u v' : Value} (hi : rs[i]? = some r)
    (hc : w.cell? ⟨g, i, none⟩ = some u) (hg : w.grownBy w1 u.ownBlock) (ho : OwnI w1 base v' r') (hn : v'.ownBlock = none ∨ v'.ownBlock = u.ownBlock ∨ ∃ k, v'.ownBlock = some k ∧ w.heap.size ≤ k) :
    OwnM (w1.setCell ⟨g, i, none⟩ v') base (.slice (some ⟨g, 0, none⟩) n c) (rs.set i r') := by
  obtain ⟨vs, h1, h2, h3⟩ := h
  obtain rfl : rs.length = n := by
    rcases h1.2 with ⟨e, _⟩ | ⟨_, _, _, e, _⟩
    · simp at e
    · simp only [Value.slice.injEq] at e; exact e.2.1.symm
  have hlt := (List.getElem?_eq_some_iff.1 hi).1
  have hl : vs.length = rs.length := by have := h1.1; omega
  have hu : vs[i]? = some u := by rw [← h1.cellAt i (by omega)]; exact hc
  have hou := h2 i r u hi hu
  have hne := own_ne h1 hou (by decide)
  have h1' := (h1.kept hg hne).stored i v'
  have hgb : (Value.slice (some ⟨g, 0, none⟩) rs.length c).ownBlock = some g := rfl
  have hv' : v'.ownBlock ≠ some g := by
    intro e
    rcases own_ne ho (h1.kept hg hne) (by decide) with h | h
    · rw [h] at e; cases e
    · exact h e
  refine ⟨vs.set i v', by rw [List.length_set]; exact h1'.1, fun j s x hs hx => ?_, fun a b x y hab hx hy => ?_⟩
  · by_cases hij : i = j
    · subst hij
      rw [List.getElem?_set_self hlt] at hs
      rw [List.getElem?_set_self (by omega)] at hx
      cases hs; cases hx
      exact ho.kept h1'.2 (.inr hv')
    · rw [List.getElem?_set_ne hij] at hs hx
      have ho2 := (h2 j s x hs hx)
      have hne2 := h3 j i x u (Ne.symm hij) hx hu
      have ho3 := ho2.kept hg hne2
      exact ho3.kept h1'.2 (by
        rcases own_ne ho3 (h1.kept hg hne) (by decide) with h | h
        · exact .inl h
        · exact .inr h)
  · have key : ∀ j x, i ≠ j → vs[j]? = some x → x.ownBlock = none ∨ x.ownBlock ≠ v'.ownBlock := by
      intro j x hij hx
      rcases hn with e | e | ⟨k, e, hk⟩
      · rw [e]
        by_cases hx0 : x.ownBlock = none
        · exact .inl hx0
        · exact .inr hx0
      · rw [e]; exact h3 j i x u (Ne.symm hij) hx hu
      · rw [e]
        have hj : j < rs.length := by have := (List.getElem?_eq_some_iff.1 hx).1; omega
        have hox := h2 j _ x (List.getElem?_eq_getElem hj) hx
        refine .inr fun e2 => ?_
        have := (hox.lt k e2).2
        omega
    by_cases ha : i = a
    · subst ha
      rw [List.getElem?_set_self (by omega)] at hx
      rw [List.getElem?_set_ne hab] at hy
      cases hx
      rcases key b y hab hy with h | h
      · rw [h]
        by_cases hx : v'.ownBlock = none
        · exact .inl hx
        · exact .inr hx
      · exact .inr (Ne.symm h)
    · by_cases hb : i = b
      · subst hb
        rw [List.getElem?_set_self (by omega)] at hy
        rw [List.getElem?_set_ne ha] at hx
        cases hy
        exact key a x ha hx
      · rw [List.getElem?_set_ne ha] at hx
        rw [List.getElem?_set_ne hb] at hy
        exact h3 a b x y hab hx hy
/-- make([][]int, n). -/
theorem OwnM_made (w : World) (base n : Nat) (hb : base ≤ w.heap.size) (hn : n ≤ maxLen) : OwnM (w.alloc (.cells (madeCells #[.slice none 0 0] n) 23)) base (.slice (some ⟨w.heap.size, 0, none⟩) n n) (List.replicate n []) := by
  have hr := World.ownsRow_lit (base := base) (e := 23) (size := 1) w (madeCells #[.slice none 0 0] n) n hb hn (by rw [size_madeCells]; omega)
  rw [toList_madeCells_one] at hr
  refine ⟨List.replicate n (.slice none 0 0), by simpa using hr, fun j r u h1 h2 => ?_, fun i j u u' _ h1 h2 => .inl ?_⟩
  · rw [List.getElem?_replicate] at h1 h2
    split at h1
    · cases h1
      rw [if_pos (by assumption)] at h2
      cases h2
      exact World.ownsRow_nil _ _ _ _
    · cases h1
  · rw [List.getElem?_replicate] at h1
    split at h1
    · cases h1; rfl
    · cases h1
end Go.Proofs.YtfljkcmijnhgkaaDoor

namespace Go.Proofs.YtfljkcmijnhgkaaDoor
open Go.RowKit
/-- All blocks but the rows' are as they were. -/
structure KeptBut (vs : List Value) (w w' : World) : Prop where
  os : w'.os = w.os
  tape : w'.tape = w.tape
  output : w'.output = w.output
  size : w.heap.size ≤ w'.heap.size
  block : ∀ k, k < w.heap.size → (∀ u ∈ vs, u.ownBlock ≠ some k) → w'.heap[k]? = w.heap[k]?
namespace KeptBut
variable {vs : List Value} {w w' w'' : World}
theorem refl (vs : List Value) (w : World) : KeptBut vs w w := ⟨rfl, rfl, rfl, Nat.le_refl _, fun _ _ _ => rfl⟩
theorem trans (h : KeptBut vs w w') (k : KeptBut vs w' w'') : KeptBut vs w w'' :=
  ⟨k.os.trans h.os, k.tape.trans h.tape, k.output.trans h.output, Nat.le_trans h.size k.size, fun i hi hn => (k.block i (Nat.lt_of_lt_of_le hi h.size) hn).trans (h.block i hi hn)⟩
theorem of_below (h : Below w.heap.size w w') : KeptBut vs w w' := ⟨h.os, h.tape, h.output, h.size, fun k hk _ => h.block k hk⟩
theorem below (h : KeptBut vs w w') {B : Nat} (hB : B ≤ w.heap.size) (hv : ∀ u ∈ vs, ∀ k, u.ownBlock = some k → B ≤ k) : Below B w w' :=
  ⟨h.os, h.tape, h.output, h.size, fun k hk => h.block k (by omega) (fun u hu e => by have := hv u hu k e; omega)⟩
theorem drew (h : KeptBut vs w w') : KeptBut vs w w'.drew := ⟨h.os, h.tape, h.output, h.size, h.block⟩
theorem setCell (h : KeptBut vs w w') {u : Value} (hu : u ∈ vs) {g k : Nat} (hg : u.ownBlock = some g) (x : Value) : KeptBut vs w (w'.setCell ⟨g, k, none⟩ x) :=
  ⟨h.os, h.tape, h.output, by have := h.size; simpa using this, fun i hi hn => (Below.heap_setCell _ _ _ _ (fun e => hn u hu (by rw [hg, e]))).trans (h.block i hi hn)⟩
theorem cell (h : KeptBut vs w w') {a : Addr} {x : Value} (hc : w.cell? a = some x) (hn : ∀ u ∈ vs, u.ownBlock ≠ some a.block) : w'.cell? a = some x :=
  (World.cell?_of_block (h.block a.block (World.block_lt_of_cell? w a hc) hn)).trans hc
theorem frozen (h : KeptBut vs w w') {a : Addr} (ha : a.block < w.heap.size) (hn : ∀ u ∈ vs, u.ownBlock ≠ some a.block) : w'.frozen? a = w.frozen? a :=
  World.frozen?_of_block (h.block a.block ha hn)
theorem grown (h : KeptBut vs w w') {e : Nat} (he : ∀ u ∈ vs, u.ownBlock ≠ some e) : w.heap.size ≤ e ∨ w'.heap[e]? = w.heap[e]? := by
  by_cases hk : e < w.heap.size
  · exact .inr (h.block e hk he)
  · exact .inl (by omega)
end KeptBut
/-- A MATRIX OF THE CALL'S OWN, its rows' values being vs. -/
structure OwnMv (w : World) (base : Nat) (v : Value) (rs : List (List Int)) (vs : List Value) : Prop where
  outer : w.ownsRow base 23 1 v rs.length vs
  rows : ∀ (j : Nat) (r : List Int) (u : Value), rs[j]? = some r → vs[j]? = some u → OwnI w base u r
  apart : ∀ (i j : Nat) (u u' : Value), i ≠ j → vs[i]? = some u → vs[j]? = some u' → u.ownBlock = none ∨ u.ownBlock ≠ u'.ownBlock
theorem OwnM.v {w : World} {base : Nat} {v : Value} {rs : List (List Int)} (h : OwnM w base v rs) : ∃ vs, OwnMv w base v rs vs := by
  obtain ⟨vs, h1, h2, h3⟩ := h; exact ⟨vs, ⟨h1, h2, h3⟩⟩
namespace OwnMv
variable {w w1 : World} {base : Nat} {v : Value} {rs : List (List Int)} {vs : List Value}
theorem m (h : OwnMv w base v rs vs) : OwnM w base v rs := ⟨vs, h.outer, h.rows, h.apart⟩
theorem len (h : OwnMv w base v rs vs) : vs.length = rs.length := by have := h.outer.1; omega
theorem kept (h : OwnMv w base v rs vs) (hb : Below w.heap.size w w1) : OwnMv w1 base v rs vs :=
  ⟨own_below h.outer hb, fun j r u hr hu => (h.rows j r u hr hu).below hb, h.apart⟩
theorem grownBy (h : OwnMv w base v rs vs) {row : Option Nat} (hg : w.grownBy w1 row) (ho : v.ownBlock = none ∨ v.ownBlock ≠ row) (hr : ∀ u ∈ vs, u.ownBlock = none ∨ u.ownBlock ≠ row) : OwnMv w1 base v rs vs :=
  ⟨h.outer.kept hg ho, fun j r u hj hu => (h.rows j r u hj hu).kept hg (hr u (List.mem_of_getElem? hu)), h.apart⟩
theorem ge (h : OwnMv w base v rs vs) : ∀ u ∈ vs, ∀ k, u.ownBlock = some k → base ≤ k ∧ k < w.heap.size := by
  intro u hu k hk
  obtain ⟨j, hj, rfl⟩ := List.getElem_of_mem hu
  have := h.rows j _ _ (List.getElem?_eq_getElem (by have := h.len; omega)) (List.getElem?_eq_getElem hj)
  exact OwnI.base this (Nat.le_refl _) |>.lt k hk
/-- The block of rows is none of the rows' blocks. -/
theorem outer_ne (h : OwnMv w base v rs vs) {g : Nat} (hg : v.ownBlock = some g) : ∀ u ∈ vs, u.ownBlock ≠ some g := by
  intro u hu e
  obtain ⟨j, hj, rfl⟩ := List.getElem_of_mem hu
  have hr := h.rows j _ _ (List.getElem?_eq_getElem (by have := h.len; omega)) (List.getElem?_eq_getElem hj)
  rcases own_ne hr h.outer (by decide) with h1 | h1
  · rw [h1] at e; cases e
  · exact h1 (by rw [e, hg])
/-- The place of row i. -/
theorem at_ (h : OwnMv w base v rs vs) {i : Nat} {r : List Int} {u : Value} (hr : rs[i]? = some r) (hu : vs[i]? = some u) : ∃ g c, v = .slice (some ⟨g, 0, none⟩) rs.length c ∧ base ≤ g ∧ g < w.heap.size ∧ w.cell? ⟨g, i, none⟩ = some u ∧ w.frozen? ⟨g, i, none⟩ = false := by
  have hlt := (List.getElem?_eq_some_iff.1 hr).1
  obtain ⟨g, c, rfl, hb, hg⟩ := h.outer.form (by omega)
  exact ⟨g, c, rfl, hb, hg, by rw [h.outer.cellAt i (by omega)]; exact hu, h.outer.frozenAt i⟩
/-- Number k of row i. -/
theorem num (h : OwnMv w base v rs vs) {i k : Nat} {r : List Int} {u : Value} (hr : rs[i]? = some r) (hu : vs[i]? = some u) (hk : k < r.length) :
    ∃ g c, u = .slice (some ⟨g, 0, none⟩) r.length c ∧ base ≤ g ∧ g < w.heap.size ∧ w.cell? ⟨g, k, none⟩ = some (.int .i64 (r.getD k 0)) ∧ w.frozen? ⟨g, k, none⟩ = false := by
  have ho := h.rows i r u hr hu
  unfold OwnI at ho
  obtain ⟨g, c, rfl, hb, hg⟩ := ho.form (by omega)
  exact ⟨g, c, rfl, hb, hg, by rw [ho.cellAt k (by omega), ints_get, List.getElem?_eq_getElem hk]; simp [List.getD_eq_getElem?_getD, hk], ho.frozenAt k⟩
/-- A number is stored into row i. -/
theorem put (h : OwnMv w base v rs vs) {i k g c n : Nat} {r : List Int} (hr : rs[i]? = some r) (hu : vs[i]? = some (.slice (some ⟨g, 0, none⟩) n c)) (x : Int) :
    OwnMv (w.setCell ⟨g, k, none⟩ (.int .i64 x)) base v (rs.set i (r.set k x)) vs ∧ KeptBut vs w (w.setCell ⟨g, k, none⟩ (.int .i64 x)) := by
  have hlt := (List.getElem?_eq_some_iff.1 hr).1
  have ho := h.rows i r _ hr hu
  unfold OwnI at ho
  have hn : r.length = n := by
    rcases ho.2 with ⟨e, _⟩ | ⟨_, _, _, e, _⟩
    · simp at e
    · simp only [Value.slice.injEq] at e; exact e.2.1.symm
  subst hn
  obtain ⟨hs, hg⟩ := ho.stored k (.int .i64 x)
  have hout : v.ownBlock = none ∨ v.ownBlock ≠ some g := own_ne h.outer ho (by decide)
  refine ⟨⟨by rw [List.length_set]; exact h.outer.kept hg hout, fun j s u hs' hu' => ?_, h.apart⟩, (KeptBut.refl vs w).setCell (List.mem_of_getElem? hu) rfl _⟩
  by_cases hij : i = j
  · subst hij
    rw [List.getElem?_set_self hlt] at hs'
    rw [hu] at hu'
    cases hs'; cases hu'
    unfold OwnI
    rw [List.length_set]
    have : ints (r.set k x) = (ints r).set k (.int .i64 x) := by simp [ints, List.map_set]
    rw [this]; exact hs
  · rw [List.getElem?_set_ne hij] at hs'
    exact OwnI.base ((h.rows j s u hs' hu').kept hg (h.apart j i u _ (Ne.symm hij) hu' hu)) (Nat.le_refl _)
/-- Two rows change their places. -/
theorem swap (h : OwnMv w base v rs vs) {g c n i j : Nat} (hv : v = .slice (some ⟨g, 0, none⟩) n c) {r s : List Int} {u x : Value} (hr : rs[i]? = some r) (hs : rs[j]? = some s) (hu : vs[i]? = some u) (hx : vs[j]? = some x) (hij : i ≠ j) :
    OwnMv ((w.setCell ⟨g, i, none⟩ x).setCell ⟨g, j, none⟩ u) base v ((rs.set i s).set j r) ((vs.set i x).set j u) := by
  subst hv
  obtain rfl : rs.length = n := by
    rcases h.outer.2 with ⟨e, _⟩ | ⟨_, _, _, e, _⟩
    · simp at e
    · simp only [Value.slice.injEq] at e; exact e.2.1.symm
  have hi := (List.getElem?_eq_some_iff.1 hr).1
  have hj := (List.getElem?_eq_some_iff.1 hs).1
  have hl := h.len
  obtain ⟨h1, g1⟩ := h.outer.stored i x
  obtain ⟨h2, g2⟩ := h1.stored j u
  have key : ∀ k (y : Value), ((vs.set i x).set j u)[k]? = some y → ∃ k', vs[k']? = some y ∧ ((rs.set i s).set j r)[k]? = rs[k']? ∧ (k = i → k' = j) ∧ (k = j → k' = i) ∧ (k ≠ i → k ≠ j → k' = k) := by
    intro k y hy
    by_cases hkj : j = k
    · subst hkj
      rw [List.getElem?_set_self (by simp; omega)] at hy
      cases hy
      exact ⟨i, hu, by rw [List.getElem?_set_self (by simp; omega)]; exact hr.symm, fun e => absurd e.symm hij, fun _ => rfl, fun _ h => absurd rfl h⟩
    · rw [List.getElem?_set_ne hkj] at hy ⊢
      by_cases hki : i = k
      · subst hki
        rw [List.getElem?_set_self (by omega)] at hy
        cases hy
        exact ⟨j, hx, by rw [List.getElem?_set_self hi]; exact hs.symm, fun _ => rfl, fun e => absurd e.symm hkj, fun h => absurd rfl h⟩
      · rw [List.getElem?_set_ne hki] at hy ⊢
        exact ⟨k, hy, rfl, fun e => absurd e.symm hki, fun e => absurd e.symm hkj, fun _ _ => rfl⟩
  refine ⟨by simpa using h2, fun k a y ha hy => ?_, fun a b y z hab hy hz => ?_⟩
  · obtain ⟨k', e1, e2, _⟩ := key k y hy
    rw [e2] at ha
    have ho := h.rows k' a y ha e1
    have hne : y.ownBlock = none ∨ y.ownBlock ≠ some g := own_ne ho h.outer (by decide)
    exact OwnI.base ((World.ownsRow.kept (World.ownsRow.kept ho g1 hne) g2 hne)) (Nat.le_refl _)
  · obtain ⟨a', e1, _, e3, e4, e5⟩ := key a y hy
    obtain ⟨b', f1, _, f3, f4, f5⟩ := key b z hz
    refine h.apart a' b' y z (fun e => ?_) e1 f1
    subst e
    by_cases ha : a = i
    · have := e3 ha
      by_cases hb : b = i
      · omega
      · by_cases hb2 : b = j
        · have := f4 hb2; omega
        · have := f5 hb hb2; omega
    · by_cases ha2 : a = j
      · have := e4 ha2
        by_cases hb : b = i
        · have := f3 hb; omega
        · by_cases hb2 : b = j
          · omega
          · have := f5 hb hb2; omega
      · have := e5 ha ha2
        by_cases hb : b = i
        · have := f3 hb; omega
        · by_cases hb2 : b = j
          · have := f4 hb2; omega
          · have := f5 hb hb2; omega
end OwnMv
end Go.Proofs.YtfljkcmijnhgkaaDoor
