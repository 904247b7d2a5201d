/- Terms far away: the powers of a rule's matrix. -/
import Derived.Test.YtfljkcmijnhgkaaDoorKu
import Derived.Test.YtfljkcmijnhgkaaDoorKg
import Derived.Test.YtfljkcmijnhgkaaDoorKq
import Derived.Laws.IdiomCopy
import Derived.Test.YtfljkcmijnhgkaaDoorKn
import Derived.Test.YtfljkcmijnhgkaaDoorKh
import Derived.Test.YtfljkcmijnhgkaaDoorKb
import Derived.Test.YtfljkcmijnhgkaaDoorKza
import Derived.Test.YtfljkcmijnhgkaaDoorKwd
namespace Go.Proofs.YtfljkcmijnhgkaaDoor
/-- As many terms as the order, from n on. -/
def winT (r : Rule) (n : Nat) : List Int := (List.range r.by_.length).map fun j => termK r (n + j)
section
variable {r : Rule}
theorem comp_col (hl : r.start.length = r.by_.length) (hb : ∀ x ∈ r.by_, 0 ≤ x ∧ x < 65521) (hm : 0 < r.by_.length) : ∀ (e i : Nat), i < r.by_.length →
    S r.by_.length (fun j => G (powL (compM r.by_) r.by_.length e) i j * seqF r (r.by_.length - 1 - j)) = seqF r (e + r.by_.length - 1 - i)
  | 0, i, hi => by
    rw [show powL (compM r.by_) r.by_.length 0 = idM r.by_.length from rfl, S_one (k := i) hi (fun j hj hne => by rw [G_idM hi hj, one, if_neg (fun e => hne e.symm)]; grind), G_idM hi hi, one, if_pos rfl, Nat.zero_add]; grind
  | e + 1, i, hi => by
    have hA := okM_comp hb
    have hP := okM_powL hA hm e
    have h1 : S r.by_.length (fun j => G (powL (compM r.by_) r.by_.length (e + 1)) i j * seqF r (r.by_.length - 1 - j)) = S r.by_.length (fun q => G (compM r.by_) i q * seqF r (e + r.by_.length - 1 - q)) := by
      rw [S_congr (g := fun j => S r.by_.length (fun q => G (compM r.by_) i q * (G (powL (compM r.by_) r.by_.length e) q j * seqF r (r.by_.length - 1 - j)))) (fun j hj => by
        show G (prodM (compM r.by_) (powL (compM r.by_) r.by_.length e)) i j * _ = _
        rw [G_prod hA hP hm hi hj]
        unfold mul
        rw [← S_mul']; exact S_congr fun q _ => by grind), S_swap]
      exact S_congr fun q hq => by rw [S_mul, comp_col hl hb hm e q hq]
    rw [h1]
    by_cases h0 : i = 0
    · subst h0
      rw [show e + 1 + r.by_.length - 1 - 0 = e + r.by_.length by omega, seq_rec hl e, S_turn]
      refine S_congr fun q hq => ?_
      rw [show e + r.by_.length - 1 - (r.by_.length - 1 - q) = e + q by omega]
      congr 1
      show toF (gM (compM r.by_) 0 (r.by_.length - 1 - q)) = _
      rw [compM, gM_mat _ hm (by omega), compE, if_pos rfl]
    · rw [S_one (k := i - 1) (by omega) (fun q hq hne => by
        show toF (gM (compM r.by_) i q) * _ = 0
        rw [compM, gM_mat _ hi hq, compE, if_neg h0, if_neg (by omega), toF_zero]; grind)]
      show toF (gM (compM r.by_) i (i - 1)) * _ = _
      rw [compM, gM_mat _ hi (by omega), compE, if_neg h0, if_pos (by omega), toF_one, show e + r.by_.length - 1 - (i - 1) = e + 1 + r.by_.length - 1 - i by omega]; grind
theorem winT_get (r : Rule) (n : Nat) {j : Nat} (hj : j < r.by_.length) : (winT r n).getD j 0 = termK r (n + j) := getD_map_range _ _ hj
theorem okM_colS (hl : r.start.length = r.by_.length) (hs : ∀ x ∈ r.start, 0 ≤ x ∧ x < 65521) : okM (colM r.start) r.by_.length 1 := hl ▸ okM_col hs
/-- The program's way far away. -/
theorem fromM_win (hl : r.start.length = r.by_.length) (hb : ∀ x ∈ r.by_, 0 ≤ x ∧ x < 65521) (hs : ∀ x ∈ r.start, 0 ≤ x ∧ x < 65521) {n : Nat} (hn : n < 18446744073709551616) : fromM r n = winT r n := by
  unfold fromM
  by_cases h0 : r.by_.length = 0
  · rw [if_pos h0, winT, h0]; rfl
  · rw [if_neg h0]
    have hm : 0 < r.by_.length := by omega
    have hA := okM_comp hb
    have hP := okM_powL hA hm n
    rw [powMat_eq hA hm hn, prodM, hP.1, (okM_colS hl hs).len0 hm]
    apply List.ext_getElem (by simp [mat, winT])
    intro j h1 h2
    have hj : j < r.by_.length := by simpa [winT] using h2
    rw [List.getElem_reverse]
    simp only [mat, List.getElem_map, List.getElem_range, List.length_map, List.length_range, winT]
    have hi : r.by_.length - 1 - j < r.by_.length := by omega
    rw [getD_map_range _ _ (by omega)]
    refine toF_inj ⟨Int.emod_nonneg _ (by decide), Int.emod_lt_of_pos _ (by decide)⟩ (termK_bd hs _) ?_
    rw [prodE, hP.row hi, toF_emod, toF_psum]
    have h3 := comp_col hl hb hm n (r.by_.length - 1 - j) hi
    rw [show n + r.by_.length - 1 - (r.by_.length - 1 - j) = n + j by omega] at h3
    show _ = seqF r (n + j)
    rw [← h3]
    refine S_congr fun q hq => ?_
    rw [toF_emod, toF_mul]
    congr 1
    show toF (gM (colM r.start) q 0) = toF (termK r _)
    rw [colM, gM_mat _ (by omega) (by omega), colE, hl, termK, if_pos (by omega)]
end
end Go.Proofs.YtfljkcmijnhgkaaDoor
