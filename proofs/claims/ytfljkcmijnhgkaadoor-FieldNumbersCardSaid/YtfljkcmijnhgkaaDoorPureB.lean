/- The plain functions of the rest of layer 16: inverses, characteristic polynomials, terms, fitting. -/
import Derived.Test.YtfljkcmijnhgkaaDoorRight
namespace Go.Proofs.YtfljkcmijnhgkaaDoor

/-- A matrix with the identity beside it. -/
def idAug (rs : List (List Int)) : List (List Int) := (List.range rs.length).map fun i => rs.getD i [] ++ (idM rs.length).getD i []
def invS (rs : List (List Int)) : Sys := solveS (idAug rs) (List.range rs.length) false
def invMR (rs : List (List Int)) : Int × List (List Int) :=
  if squareM rs ≠ 0 then (squareM rs, []) else if (invS rs).piv.length < rs.length then (6, []) else (0, (invS rs).rows.map (·.drop rs.length))
/-- Faddeev and Le Verrier. -/
def traceM (m : List (List Int)) (n : Nat) : Int := psum (fun i => gM m i i) n
def diagM (m : List (List Int)) (c : Int) (n : Nat) : List (List Int) := mat (fun i j => if i = j then (gM m i i + 65521 - c) % 65521 else gM m i j) n n
def chC (m : List (List Int)) (n k : Nat) : Int := traceM m n % 65521 * invN ((k : Int) + 1) % 65521
/-- The matrix behind k rounds, and the numbers told. -/
def chP (a : List (List Int)) (n : Nat) : Nat → List (List Int) × List Int
  | 0 => (idM n, [])
  | k + 1 => let m := prodM a (chP a n k).1
             (diagM m (chC m n k) n, (chP a n k).2 ++ [chC m n k])
def charR (a : List (List Int)) : Int × List Int := if squareM a ≠ 0 then (squareM a, []) else (0, (chP a a.length a.length).2)
/-- The term behind l. -/
def nextT (bs l : List Int) : Int := psum (fun k => bs.getD k 0 * l.getD (l.length - 1 - k) 0 % 65521) bs.length % 65521
/-- The first terms. -/
def firstL (r : Rule) : Nat → List Int
  | 0 => []
  | n + 1 => firstL r n ++ [if n < r.start.length then r.start.getD n 0 else nextT r.by_ (firstL r n)]
/-- The rows of the system of an order. -/
def rowsL (l : List Int) (o : Nat) : List (List Int) := mat (fun i k => l.getD (o + i - 1 - k) 0) (l.length - o) o
def fitO (l : List Int) (o : Nat) : Option (List Int) := solvedM (rowsL l o) (l.drop o) o
/-- The rule of the first of some orders that fits. -/
def fitL (l : List Int) : List Nat → Option Rule
  | [] => none
  | o :: os => match fitO l o with
    | some by_ => some ⟨by_, l.take o⟩
    | none => fitL l os
def fitM (l : List Int) (most : Nat) : Option Rule := fitL l (List.range (min most l.length + 1))
def leastR (l : List Int) : Rule × Int := if l.length > 64 then (⟨[], []⟩, 2) else if isRes l = false then (⟨[], []⟩, 3) else match fitM l 12 with
  | some r => (r, 0)
  | none => (⟨[], []⟩, 11)
def shortR (r : Rule) : Rule × Int := if rightR r ≠ 0 then (⟨[], []⟩, rightR r) else ((fitM (firstL r (2 * r.by_.length)) r.by_.length).getD ⟨[], []⟩, 0)
def bothR (r s : Rule) : Int := if rightR r ≠ 0 then rightR r else rightR s
/-- The first place at which two lists differ. -/
def diffL (a b : List Int) : Nat → Nat → Option Nat
  | 0, _ => none
  | f + 1, i => if a.getD i 0 ≠ b.getD i 0 then some i else diffL a b f (i + 1)
def apartR (r s : Rule) : Int × Int := if bothR r s ≠ 0 then (0, bothR r s) else
  match diffL (firstL r (r.by_.length + s.by_.length)) (firstL s (r.by_.length + s.by_.length)) (r.by_.length + s.by_.length) 0 with
  | some i => (i, 0)
  | none => (0, 6)
/-- How sequences are put together: 0 sum, 1 times, 2 folded. -/
def joinT (h : Nat) (a b : List Int) (n : Nat) : Int := match h with
  | 0 => (a.getD n 0 + b.getD n 0) % 65521
  | 1 => a.getD n 0 * b.getD n 0 % 65521
  | _ => psum (fun i => a.getD i 0 * b.getD (n - i) 0 % 65521) (n + 1) % 65521
def joinO (h m n : Nat) : Nat := if h = 1 then m * n else m + n
def joinL (h : Nat) (r s : Rule) : List Int :=
  let o := joinO h r.by_.length s.by_.length
  (List.range (2 * o)).map (joinT h (firstL r (2 * o)) (firstL s (2 * o)))
def joinR (h : Nat) (r s : Rule) : Rule × Int := if bothR r s ≠ 0 then (⟨[], []⟩, bothR r s) else
  match fitM (joinL h r s) (min (joinO h r.by_.length s.by_.length) 12) with
  | some r => (r, 0)
  | none => (⟨[], []⟩, 11)
end Go.Proofs.YtfljkcmijnhgkaaDoor
