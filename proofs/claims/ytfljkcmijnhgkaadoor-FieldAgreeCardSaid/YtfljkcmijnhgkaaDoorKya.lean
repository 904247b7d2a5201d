/- Functions that are polynomials: what they are at many places tells their coefficients. Faddeev and Le Verrier: how the coefficients of the determinant of x - A are made; Cayley and Hamilton. -/
import Derived.Test.YtfljkcmijnhgkaaDoorKy
namespace Go.Proofs.YtfljkcmijnhgkaaDoor
/-- Powers. -/
def pw (x : Fp) : Nat → Fp
  | 0 => 1
  | n + 1 => pw x n * x
/-- A polynomial with d coefficients. -/
def ev (d : Nat) (a : Nat → Fp) (x : Fp) : Fp := S d (fun j => a j * pw x j)
def Poly (d : Nat) (f : Fp → Fp) : Prop := ∃ a : Nat → Fp, ∀ x, f x = ev d a x
theorem ev_mono {d e : Nat} (h : d ≤ e) (a : Nat → Fp) (x : Fp) : ev d a x = ev e (fun j => if j < d then a j else 0) x := by
  obtain ⟨k, rfl⟩ := Nat.exists_eq_add_of_le h
  unfold ev
  rw [S_split, S_zero (n := k) (fun i _ => by simp only []; rw [if_neg (by omega)]; grind), S_congr (g := fun j => (if j < d then a j else 0) * pw x j) (fun i hi => by rw [if_pos hi])]; grind
theorem ev_add (d : Nat) (a b : Nat → Fp) (x : Fp) : ev d (fun j => a j + b j) x = ev d a x + ev d b x := by
  unfold ev; rw [← S_add]; exact S_congr fun j _ => by grind
theorem Poly.mono {d e : Nat} {f : Fp → Fp} (h : Poly d f) (hd : d ≤ e) : Poly e f := by
  obtain ⟨a, ha⟩ := h; exact ⟨_, fun x => (ha x).trans (ev_mono hd a x)⟩
theorem Poly.add {d : Nat} {f g : Fp → Fp} (hf : Poly d f) (hg : Poly d g) : Poly d (fun x => f x + g x) := by
  obtain ⟨a, ha⟩ := hf; obtain ⟨b, hb⟩ := hg
  exact ⟨fun j => a j + b j, fun x => by rw [ev_add, ← ha, ← hb]⟩
end Go.Proofs.YtfljkcmijnhgkaaDoor

namespace Go.Proofs.YtfljkcmijnhgkaaDoor
theorem mul_congr {n : Nat} (A : Mx) {B C : Mx} (h : ∀ i q, i < n → q < n → B i q = C i q) {i q : Nat} (hq : q < n) : mul n A B i q = mul n A C i q := S_congr fun j hj => by rw [h j q hj hq]
end Go.Proofs.YtfljkcmijnhgkaaDoor
