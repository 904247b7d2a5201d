/- The reference's determinant is the program's; inverses, found column by column, are the program's. The characteristic numbers that the reference finds by a system are the program's. Products of square matrices: put together in any way; powers; what a square matrix answers. -/
import Derived.Test.YtfljkcmijnhgkaaDoorKz
import Derived.Test.YtfljkcmijnhgkaaDoorKy
import Derived.Test.YtfljkcmijnhgkaaDoorKi
import Derived.Test.YtfljkcmijnhgkaaDoorKya
import Derived.Test.YtfljkcmijnhgkaaDoorKb
namespace Go.Proofs.YtfljkcmijnhgkaaDoor

def blk (j : Nat) (A : Mx) : Mx := fun a b => A (j + a) (j + b)
theorem getD_map_range {α : Type} (f : Nat → α) (d : α) {n i : Nat} (h : i < n) : ((List.range n).map f).getD i d = f i := by
  rw [List.getD_eq_getElem?_getD, List.getElem?_map, List.getElem?_range h]; rfl
theorem G_elP {R : List (List Int)} {n : Nat} (h : okM R n n) {j i k : Nat} (_hj : j < n) (hi : i < n) (hk : k < n) (iv : Int) :
    G (elP R j iv n) i k = if j < i ∧ j ≤ k then G R i k - (G R i j * toF iv) * G R j k else G R i k := by
  have e : (elP R j iv n).getD i [] = if j < i ∧ i < n then sbF (R.getD i []) (R.getD j []) (65521 - elT R j i iv) j (R.getD i []).length else R.getD i [] := by
    rw [elP, h.1]; exact getD_map_range _ _ hi
  unfold G
  rw [gM, e]
  by_cases h1 : j < i
  · rw [if_pos ⟨h1, hi⟩, h.row hi, sbF, getD_map_range _ _ (by rw [h.row hi]; exact hk)]
    by_cases h2 : j ≤ k
    · rw [if_pos ⟨h2, hk⟩, if_pos ⟨h1, h2⟩, toF_emod, toF_add, toF_mul, toF_sub, toF_p]
      have : toF (elT R j i iv) = toF (gM R i j) * toF iv := by rw [elT, toF_emod, toF_mul]
      rw [this]
      show toF (gM R i k) + (0 - _) * toF (gM R j k) = _
      grind
    · rw [if_neg (by omega), if_neg (by omega)]; rfl
  · rw [if_neg (by omega), if_neg (by omega)]; rfl
theorem rdet_eq {n : Nat} : ∀ (f j : Nat) (rs : List (List Int)) (o : Int), j + f = n → okM rs n n → (0 ≤ o ∧ o < 65521) → toF (rdet f j rs o) = toF o * D f (blk j (G rs)) ∧ (0 ≤ rdet f j rs o ∧ rdet f j rs o < 65521)
  | 0, j, rs, o, _, _, ho => ⟨by rw [rdet, D]; grind, ho⟩
  | f + 1, j, rs, o, hj, hok, ho => by
    have hsp := findP_spec rs j (n - j) j
    rw [rdet, hok.1]
    cases hf : findP rs j (n - j) j with
    | none =>
      rw [hf] at hsp
      simp only []
      refine ⟨?_, by decide⟩
      rw [D, S_zero (fun i hi => by rw [show blk j (G rs) i 0 = 0 from by show toF (gM rs (j + i) (j + 0)) = 0; rw [Nat.add_zero, hsp (j + i) (by omega) (by omega)]; rfl]; grind), toF_zero]; grind
    | some a =>
      rw [hf] at hsp
      obtain ⟨h1, h2, h3⟩ := hsp
      have han : a < n := by omega
      have hjn : j < n := by omega
      have hokR := okM_swap hok han hjn
      have hRl : (swapM rs a j).length = n := hokR.1
      simp only [hRl]
      have hnz : G (swapM rs a j) j j ≠ 0 := by
        rw [G_swap (by rw [hok.1]; exact han) (by rw [hok.1]; exact hjn)]
        unfold swapF
        rw [if_pos rfl]
        exact fun e => h3 ((toF_eq_zero (hok.num a j)).1 e)
      have hinv : toF (invN (gM (swapM rs a j) j j)) = inv (G (swapM rs a j) j j) := toF_inv (hokR.num j j)
      have hm := mul_inv hnz
      obtain ⟨ih, ihb⟩ := rdet_eq f (j + 1) (elP (swapM rs a j) j (invN (gM (swapM rs a j) j j)) n) ((if a = j then o else (65521 - o) % 65521) * gM (swapM rs a j) j j % 65521) (by omega) (okM_elP hokR j _ n) ⟨Int.emod_nonneg _ (by decide), Int.emod_lt_of_pos _ (by decide)⟩
      refine ⟨?_, ihb⟩
      rw [ih, toF_emod, toF_mul]
      have e1 : D (f + 1) (blk j (G (swapM rs a j))) = (if a = j then 1 else -1) * D (f + 1) (blk j (G rs)) := by
        rw [G_swap (by rw [hok.1]; exact han) (by rw [hok.1]; exact hjn)]
        have e : ∀ i k, i < f + 1 → k < f + 1 → blk j (swapF (G rs) a j) i k = swapF (blk j (G rs)) (a - j) 0 i k := fun i k _ _ => by
          unfold blk swapF
          by_cases h4 : i = 0
          · rw [if_pos (by omega), if_pos h4]; show _ = G rs (j + (a - j)) (j + k); rw [show j + (a - j) = a by omega]
          · rw [if_neg (by omega), if_neg h4]
            by_cases h5 : i = a - j
            · rw [if_pos (by omega), if_pos h5]; show _ = G rs (j + 0) (j + k); rw [Nat.add_zero]
            · rw [if_neg (by omega), if_neg h5]
        rw [D_congr _ _ _ e, alt_swap (D_alt (f + 1)) (blk j (G rs)) (p := a - j) (r := 0) (by omega) (by omega)]
        by_cases h6 : a = j
        · rw [if_pos (by omega), if_pos h6]
        · rw [if_neg (by omega), if_neg h6]
      have e2 : D (f + 1) (blk j (G (elP (swapM rs a j) j (invN (gM (swapM rs a j) j j)) n))) = D (f + 1) (blk j (G (swapM rs a j))) := by
        rw [← (D_alt (f + 1)).clear (blk j (G (swapM rs a j))) (fun i => - (G (swapM rs a j) (j + i) j * inv (G (swapM rs a j) j j))) (r := 0) (by omega) (f + 1) (Nat.le_refl _)]
        refine D_congr _ _ _ fun i k hi hk => ?_
        show G _ (j + i) (j + k) = _
        rw [G_elP hokR hjn (by omega) (by omega), hinv]
        by_cases h4 : i = 0
        · rw [if_neg (by omega), if_neg (by omega)]; rfl
        · rw [if_pos (by omega), if_pos ⟨h4, hi⟩]
          show G _ (j + i) (j + k) - _ * G _ j (j + k) = G _ (j + i) (j + k) + _ * G _ (j + 0) (j + k)
          rw [Nat.add_zero]; grind
      have e3 : D (f + 1) (blk j (G (elP (swapM rs a j) j (invN (gM (swapM rs a j) j j)) n))) = G (swapM rs a j) j j * D f (blk (j + 1) (G (elP (swapM rs a j) j (invN (gM (swapM rs a j) j j)) n))) := by
        rw [D_first (fun i h0 hi => by
          show G _ (j + i) (j + 0) = 0
          rw [G_elP hokR hjn (by omega) (by omega), hinv, if_pos (by omega), Nat.add_zero]; grind)]
        congr 1
        · show G _ (j + 0) (j + 0) = _
          rw [G_elP hokR hjn (by omega) (by omega), if_neg (by omega), Nat.add_zero]
        · refine D_congr _ _ _ fun i k _ _ => ?_
          show G _ (j + (i + 1)) (j + (k + 1)) = G _ (j + 1 + i) (j + 1 + k)
          rw [show j + (i + 1) = j + 1 + i by omega, show j + (k + 1) = j + 1 + k by omega]
      rw [e2, e1] at e3
      have e4 : toF (if a = j then o else (65521 - o) % 65521) = (if a = j then 1 else -1) * toF o := by
        by_cases h6 : a = j
        · rw [if_pos h6, if_pos h6]; grind
        · rw [if_neg h6, if_neg h6, toF_emod, toF_sub, toF_p]; grind
      have e5 : ((if a = j then (1 : Fp) else -1) * (if a = j then 1 else -1)) = 1 := by split <;> decide
      rw [e4]
      show _ * G (swapM rs a j) j j * _ = _
      grind
theorem rdet_det {rs : List (List Int)} {n : Nat} (h : okM rs n n) : rdet n 0 rs 1 = detM rs := by
  obtain ⟨h1, h2⟩ := rdet_eq n 0 rs 1 (by omega) h (by decide)
  refine toF_inj h2 (detM_bd rs h) ?_
  rw [h1, detM_eq h, toF_one, D_congr n (blk 0 (G rs)) (G rs) (fun i k _ _ => by show G rs (0 + i) (0 + k) = _; rw [Nat.zero_add, Nat.zero_add])]; grind
/-- Two matrices of residues are the same if their residues are. -/
theorem okM_ext {a b : List (List Int)} {n m : Nat} (ha : okM a n m) (hb : okM b n m) (h : ∀ i k, i < n → k < m → G a i k = G b i k) : a = b := by
  apply List.ext_getElem (by rw [ha.1, hb.1])
  intro i h1 h2
  have hi : i < n := by rw [ha.1] at h1; exact h1
  have ea : a[i] = a.getD i [] := by rw [List.getD_eq_getElem?_getD, List.getElem?_eq_getElem h1]; rfl
  have eb : b[i] = b.getD i [] := by rw [List.getD_eq_getElem?_getD, List.getElem?_eq_getElem h2]; rfl
  rw [ea, eb]
  apply List.ext_getElem (by rw [ha.row hi, hb.row hi])
  intro k h3 h4
  have hk : k < m := by rw [ha.row hi] at h3; exact h3
  have e1 : (a.getD i [])[k] = gM a i k := by unfold gM; rw [List.getD_eq_getElem?_getD (l := a.getD i []), List.getElem?_eq_getElem h3]; rfl
  have e2 : (b.getD i [])[k] = gM b i k := by unfold gM; rw [List.getD_eq_getElem?_getD (l := b.getD i []), List.getElem?_eq_getElem h4]; rfl
  rw [e1, e2]
  exact toF_inj (ha.num i k) (hb.num i k) (h i k hi hk)
/-- Column c of the identity. -/
def eV (n c : Nat) : List Int := (List.range n).map fun i => if i = c then 1 else 0
theorem eV_len (n c : Nat) : (eV n c).length = n := by simp [eV]
theorem eV_bd (n c : Nat) : ∀ x ∈ eV n c, 0 ≤ x ∧ x < 65521 := fun x hx => by
  obtain ⟨i, _, rfl⟩ := List.mem_map.1 hx
  split <;> decide
theorem eV_get {n c i : Nat} (hi : i < n) : toF ((eV n c).getD i 0) = one i c := by
  rw [eV, getD_map_range _ _ hi]; unfold one; split <;> rfl
theorem gM_idAug {rs : List (List Int)} {n : Nat} (h : okM rs n n) {i : Nat} (hi : i < n) (k : Nat) : G (idAug rs) i k = if k < n then G rs i k else if k < n + n then one i (k - n) else 0 := by
  have e : (idAug rs).getD i [] = rs.getD i [] ++ (idM n).getD i [] := by
    rw [idAug, h.1]; exact getD_map_range _ _ hi
  unfold G gM
  rw [e, List.getD_eq_getElem?_getD (l := rs.getD i [] ++ _), List.getElem?_append, h.row hi]
  by_cases hk : k < n
  · rw [if_pos hk, if_pos hk, ← List.getD_eq_getElem?_getD]
  · rw [if_neg hk, if_neg hk, ← List.getD_eq_getElem?_getD]
    have hrow : (idM n).getD i [] = (List.range n).map (fun k => if i = k then (1 : Int) else 0) := by unfold idM; exact mat_getD _ hi
    rw [hrow]
    by_cases hk2 : k < n + n
    · rw [if_pos hk2, getD_map_range _ _ (by omega)]; unfold one; split <;> rfl
    · rw [if_neg hk2, getD_none (by simp; omega)]; rfl
/-- The inverse as the program has it. -/
def invM (rs : List (List Int)) : List (List Int) := (invS rs).rows.map (·.drop rs.length)
theorem invS_run {rs : List (List Int)} {n : Nat} (h : okM rs n n) : Run n (n + n) (fun x y => x < y) (G (idAug rs)) (invS rs) (List.range n) := by
  unfold invS
  rw [h.1]
  exact solveS_run (okM_idAug h) (pair_lt n)
theorem gM_invM {rs : List (List Int)} {n : Nat} (h : okM rs n n) {i : Nat} (hi : i < n) (k : Nat) : G (invM rs) i k = G (invS rs).rows i (n + k) := by
  have hR := invS_run h
  have hlt : i < (invS rs).rows.length := by rw [hR.ok.1]; exact hi
  unfold G gM invM
  rw [List.getD_eq_getElem?_getD (l := (invS rs).rows.map _), List.getElem?_map, List.getElem?_eq_getElem hlt, h.1, List.getD_eq_getElem?_getD (l := (invS rs).rows), List.getElem?_eq_getElem hlt]
  simp only [Option.map_some, Option.getD_some]
  rw [List.getD_eq_getElem?_getD, List.getElem?_drop, List.getD_eq_getElem?_getD]
theorem okM_invM {rs : List (List Int)} {n : Nat} (h : okM rs n n) : okM (invM rs) n n := by
  have hR := invS_run h
  refine ⟨by simp [invM, hR.ok.1], fun r hr => ?_⟩
  obtain ⟨u, hu, rfl⟩ := List.mem_map.1 hr
  have := hR.ok.2 u hu
  exact ⟨by rw [List.length_drop, this.1, h.1]; omega, fun x hx => this.2 x (List.mem_of_mem_drop hx)⟩
/-- A matrix whose elimination finds all pivots times what it leaves is the identity, either way round. -/
theorem inv_right {rs : List (List Int)} {n : Nat} (h : okM rs n n) (hp : (invS rs).piv.length = n) : (∀ i k, i < n → k < n → mul n (G rs) (G (invM rs)) i k = one i k) ∧ ∀ i k, i < n → k < n → mul n (G (invM rs)) (G rs) i k = one i k := by
  have hR := invS_run h
  have hfull := hR.full hp
  constructor
  · intro i k hi hk
    obtain ⟨c, hc⟩ := hR.back i hi
    have h1 : ∀ j, j < n → G rs i j = c j := fun j hj => by
      have := hc j
      rw [gM_idAug h hi, if_pos hj] at this
      rw [this, S_congr (g := fun q => c q * one q j) (fun q hq => by rw [hfull q j hq hj]), one_sum' c hj]
    have h2 := hc (n + k)
    rw [gM_idAug h hi, if_neg (by omega), if_pos (by omega), Nat.add_sub_cancel_left] at h2
    rw [h2]
    exact S_congr fun q hq => by rw [h1 q hq, gM_invM h hq]
  · intro i k hi hk
    obtain ⟨c, hc⟩ := hR.into i hi
    have h1 : ∀ j, j < n → G (invM rs) i j = c j := fun j hj => by
      have := hc (n + j)
      rw [← gM_invM h hi] at this
      rw [this, S_congr (g := fun q => c q * one q j) (fun q hq => by rw [gM_idAug h hq, if_neg (by omega), if_pos (by omega), Nat.add_sub_cancel_left]), one_sum' c hj]
    have h2 := hc k
    rw [hfull i k hi hk] at h2
    rw [h2]
    exact S_congr fun q hq => by rw [h1 q hq, gM_idAug h hq, if_pos hk]
where
  one_sum' {n k : Nat} (f : Nat → Fp) (hk : k < n) : S n (fun j => f j * one j k) = f k := by
    rw [S_one (k := k) hk (fun j _ hn => by simp only [one, if_neg hn]; grind)]; simp only [one, if_true]; grind
/-- All pivots are found just if the determinant is not 0. -/
theorem inv_det {rs : List (List Int)} {n : Nat} (h : okM rs n n) : (invS rs).piv.length = n ↔ detM rs ≠ 0 := by
  have hR := invS_run h
  constructor
  · intro hp e
    have h1 := (inv_right h hp).1
    have h2 := D_mul n (G rs) (G (invM rs))
    rw [D_congr n _ one h1, D_one_, ← detM_eq h, e, toF_zero] at h2
    exact one_ne_zero (by grind)
  · intro hd
    refine Classical.byContradiction fun hp => hd ?_
    have hle := hR.el.le
    obtain ⟨c, hc⟩ := hR.into (n - 1) (by omega)
    have hz : ∀ k, k < n → S n (fun j => c j * G rs j k) = 0 := fun k hk => by
      have := hc k
      rw [hR.zero (by omega) (by omega) (.inl (by simpa using hk))] at this
      rw [eq_comm, this]; exact S_congr fun j hj => by rw [gM_idAug h hj, if_pos hk]
    by_cases hcz : ∃ i, i < n ∧ c i ≠ 0
    · obtain ⟨i, hi, hci⟩ := hcz
      have := D_dep (G rs) c hi hci hz
      rw [← detM_eq h] at this
      exact (toF_eq_zero (detM_bd rs h)).1 this
    · -- the last row is 0 altogether: the identity beside would have less than n independent rows
      have hrow : ∀ k, G (invS rs).rows (n - 1) k = 0 := fun k => by
        rw [hc k]
        exact S_zero fun j hj => by
          have : c j = 0 := Classical.byContradiction fun e => hcz ⟨j, hj, e⟩
          rw [this]; grind
      exfalso
      have hb : ∀ i, ∃ d : Nat → Fp, i < n → ∀ k, G (idAug rs) i k = S n (fun j => d j * G (invS rs).rows j k) := fun i => by
        by_cases hi : i < n
        · obtain ⟨d, hd⟩ := hR.back i hi; exact ⟨d, fun _ => hd⟩
        · exact ⟨fun _ => 0, fun h => absurd h hi⟩
      have hd2 := fun i => Classical.choose_spec (hb i)
      obtain ⟨x, ⟨i, hi, hxi⟩, hx⟩ := depend n (List.range (n - 1)) (fun i => Classical.choose (hb i)) (by simp; omega)
      have hs : S n (fun q => x q * G (idAug rs) q (n + i)) = 0 := by
        rw [S_congr (g := fun q => S n (fun j => x q * (Classical.choose (hb q) j * G (invS rs).rows j (n + i)))) (fun q hq => by rw [hd2 q hq, S_mul]), S_swap]
        refine S_zero fun j hj => ?_
        by_cases e : j = n - 1
        · exact S_zero fun q _ => by rw [e, hrow]; grind
        · have := hx j (by simp; omega)
          rw [S_congr (g := fun q => x q * Classical.choose (hb q) j * G (invS rs).rows j (n + i)) (fun q _ => by grind), S_mul', this]; grind
      rw [S_one (k := i) hi (fun q hq hne => by rw [gM_idAug h hq, if_neg (by omega), if_pos (by omega), Nat.add_sub_cancel_left, one, if_neg hne]; grind), gM_idAug h hi, if_neg (by omega), if_pos (by omega), Nat.add_sub_cancel_left, one, if_pos rfl] at hs
      exact hxi (by grind)
theorem inv_col {rs : List (List Int)} {n : Nat} (h : okM rs n n) (hp : (invS rs).piv.length = n) {c : Nat} (hc : c < n) : ∃ x, solvedM rs (eV n c) n = some x ∧ x.length = n ∧ (∀ u ∈ x, 0 ≤ u ∧ u < 65521) ∧ ∀ i, i < n → toF (x.getD i 0) = G (invM rs) i c := by
  obtain ⟨hr, hl⟩ := inv_right h hp
  have hsol : SolL rs (eV n c) n n (fun k => G (invM rs) k c) := fun i hi => by rw [eV_get hi]; exact hr i c hi hc
  have hs := solvedM_complete h (eV_bd n c) (eV_len n c) hsol
  obtain ⟨h1, h2, h3⟩ := solvedM_sound h (eV_bd n c) (eV_len n c) hs
  refine ⟨_, hs, h1, h2, fun i hi => ?_⟩
  have e : S n (fun j => G (invM rs) i j * S n (fun k => G rs j k * toF ((fillX (sysM rs (eV n c) n) n).getD k 0))) = G (invM rs) i c := by
    rw [S_congr (g := fun j => G (invM rs) i j * one j c) (fun j hj => by rw [h3 j hj, eV_get hj]), inv_right.one_sum' _ hc]
  rw [← e, S_congr (g := fun j => S n (fun k => G (invM rs) i j * G rs j k * toF ((fillX (sysM rs (eV n c) n) n).getD k 0))) (fun j _ => by rw [← S_mul]; exact S_congr fun k _ => by grind), S_swap,
    S_congr (g := fun k => one i k * toF ((fillX (sysM rs (eV n c) n) n).getD k 0)) (fun k hk => by rw [S_mul']; congr 1; exact hl i k hi hk), S_one (k := i) hi (fun k hk hne => by rw [one, if_neg (fun e => hne e.symm)]; grind), one, if_pos rfl]; grind
/-- The reference's inverse. -/
def refInvL (rs : List (List Int)) : List (List Int) := mat (fun i c => ((solvedM rs (eV rs.length c) rs.length).getD []).getD i 0) rs.length rs.length
def refInvR (rs : List (List Int)) : Int × List (List Int) := if squareM rs ≠ 0 then (squareM rs, []) else if detM rs = 0 then (6, []) else (0, refInvL rs)
theorem invMR_ref (rs : List (List Int)) : invMR rs = refInvR rs := by
  unfold invMR refInvR
  by_cases h0 : squareM rs ≠ 0
  · rw [if_pos h0, if_pos h0]
  · rw [if_neg h0, if_neg h0]
    obtain ⟨hok, h1, h2⟩ := squareM_ok (by simpa using h0)
    have hiff := inv_det hok
    have hle := (invS_run hok).el.le
    by_cases hd : detM rs = 0
    · rw [if_pos hd, if_pos (Nat.lt_of_le_of_ne hle fun e => (hiff.1 e) hd)]
    · have hp := hiff.2 hd
      rw [if_neg hd, if_neg (by omega)]
      congr 1
      refine okM_ext (okM_invM hok) (okM_mat _ _ _ fun i c hi hc => ?_) fun i c hi hc => ?_
      · obtain ⟨x, hx, hl, hb, -⟩ := inv_col hok hp hc
        rw [hx, Option.getD_some, List.getD_eq_getElem?_getD, List.getElem?_eq_getElem (by omega)]
        exact hb _ (List.getElem_mem _)
      · obtain ⟨x, hx, -, -, he⟩ := inv_col hok hp hc
        show G (invM rs) i c = toF (gM (refInvL rs) i c)
        rw [refInvL, gM_mat _ hi hc, hx, Option.getD_some, he i hi]
end Go.Proofs.YtfljkcmijnhgkaaDoor

namespace Go.Proofs.YtfljkcmijnhgkaaDoor

theorem pw_toF (x : Int) (e : Nat) : toF (x ^ e) = pw (toF x) e := by
  induction e with
  | zero => rw [Int.pow_zero]; rfl
  | succ e ih => rw [Int.pow_succ, toF_mul, ih]; rfl
theorem G_prod {a b : List (List Int)} {n : Nat} (ha : okM a n n) (hb : okM b n n) (hn : 0 < n) {i k : Nat} (hi : i < n) (hk : k < n) : G (prodM a b) i k = mul n (G a) (G b) i k := by
  show toF (gM (prodM a b) i k) = _
  rw [prodM, ha.1, hb.len0 hn, gM_mat _ hi hk, prodE, ha.row hi, toF_emod, toF_psum]
  exact S_congr fun j _ => by rw [toF_emod, toF_mul]; rfl
theorem okM_prodn {a b : List (List Int)} {n : Nat} (ha : okM a n n) (hb : okM b n n) (hn : 0 < n) : okM (prodM a b) n n := okM_prod ha hb hn
/-- What the program makes, as residues. -/
theorem chP_eq {a : List (List Int)} {n : Nat} (ha : okM a n n) (hn : 0 < n) (h9 : n < 60000) : ∀ k, k ≤ n → (∀ i q, i < n → q < n → G (chP a n k).1 i q = flB n (G a) k i q) ∧ (chP a n k).2.length = k ∧ (∀ j, j < k → toF ((chP a n k).2.getD j 0) = flC n (G a) j) ∧ ∀ x ∈ (chP a n k).2, 0 ≤ x ∧ x < 65521 := fun k => by
  induction k with
  | zero =>
    intro _
    refine ⟨fun i q hi hq => ?_, rfl, fun j hj => by omega, fun x hx => by cases hx⟩
    show toF (gM (idM n) i q) = one i q
    rw [idM, gM_mat _ hi hq]; unfold one; split <;> rfl
  | succ k ih =>
    intro hk
    obtain ⟨h1, h2, h3, h4⟩ := ih (by omega)
    have hok := okM_chP ha hn k
    have hG : ∀ i q, i < n → q < n → G (prodM a (chP a n k).1) i q = mul n (G a) (flB n (G a) k) i q := fun i q hi hq => by
      rw [G_prod ha hok hn hi hq]; exact mul_congr (G a) h1 hq
    have hC : toF (chC (prodM a (chP a n k).1) n k) = flC n (G a) k := by
      unfold chC flC
      rw [toF_emod, toF_mul, toF_emod, toF_inv (by omega), traceM, toF_psum]
      congr 1
      exact S_congr fun i hi => hG i i hi hi
    have e : chP a n (k + 1) = (diagM (prodM a (chP a n k).1) (chC (prodM a (chP a n k).1) n k) n, (chP a n k).2 ++ [chC (prodM a (chP a n k).1) n k]) := rfl
    rw [e]
    refine ⟨fun i q hi hq => ?_, by simp [h2], fun j hj => ?_, fun x hx => ?_⟩
    · show toF (gM (diagM _ _ n) i q) = mul n (G a) (flB n (G a) k) i q - flC n (G a) k * one i q
      rw [diagM, gM_mat _ hi hq, ← hC, ← hG i q hi hq]
      by_cases e : i = q
      · subst e
        rw [if_pos rfl, toF_emod, toF_sub, toF_add, toF_p, one, if_pos rfl]
        show G _ i i + 0 - _ = _; grind
      · rw [if_neg e, one, if_neg e]
        show G _ i q = _; grind
    · show toF (((chP a n k).2 ++ [chC (prodM a (chP a n k).1) n k]).getD j 0) = _
      rw [List.getD_eq_getElem?_getD]
      by_cases e : j < k
      · rw [List.getElem?_append_left (by omega), ← List.getD_eq_getElem?_getD]; exact h3 j e
      · have : j = k := by omega
        subst this
        rw [List.getElem?_append_right (by omega), h2, Nat.sub_self]; exact hC
    · rcases List.mem_append.1 hx with hx | hx
      · exact h4 x hx
      · have : x = chC (prodM a (chP a n k).1) n k := by simpa using hx
        rw [this]; exact ⟨Int.emod_nonneg _ (by decide), Int.emod_lt_of_pos _ (by decide)⟩
/-- The reference's system. -/
def vdR (m : Nat) : List (List Int) := mat (fun x i => (x : Int) ^ (m - 1 - i) % 65521) m m
def lessE (rs : List (List Int)) (x i k : Nat) : Int := if i = k then ((65521 - gM rs i k) % 65521 + x) % 65521 else (65521 - gM rs i k) % 65521
def lessM (rs : List (List Int)) (n x : Nat) : List (List Int) := mat (lessE rs x) n n
def charE (rs : List (List Int)) (n x : Nat) : Int := ((x : Int) ^ n % 65521 - detM (lessM rs n x)) % 65521
def charB (rs : List (List Int)) (n : Nat) : List Int := (List.range n).map (charE rs n)
def refCharL (rs : List (List Int)) : List Int := (solvedM (vdR rs.length) (charB rs rs.length) rs.length).getD []
def refCharR (rs : List (List Int)) : Int × List Int := if squareM rs ≠ 0 then (squareM rs, []) else (0, refCharL rs)
theorem okM_vdR (m : Nat) : okM (vdR m) m m := okM_mat _ _ _ fun _ _ _ _ => ⟨Int.emod_nonneg _ (by decide), Int.emod_lt_of_pos _ (by decide)⟩
theorem okM_lessM (rs : List (List Int)) (n x : Nat) : okM (lessM rs n x) n n := okM_mat _ _ _ fun i k _ _ => by
  unfold lessE; split <;> exact ⟨Int.emod_nonneg _ (by decide), Int.emod_lt_of_pos _ (by decide)⟩
theorem charB_bd (rs : List (List Int)) (n : Nat) : ∀ x ∈ charB rs n, 0 ≤ x ∧ x < 65521 := fun x hx => by
  obtain ⟨i, _, rfl⟩ := List.mem_map.1 hx
  exact ⟨Int.emod_nonneg _ (by decide), Int.emod_lt_of_pos _ (by decide)⟩
theorem charB_len (rs : List (List Int)) (n : Nat) : (charB rs n).length = n := by simp [charB]
theorem vd_sol {a : List (List Int)} {n : Nat} (h9 : n < 60000) : SolL (vdR n) (charB a n) n n (flC n (G a)) := fun x hx => by
  have e1 : S n (fun k => G (vdR n) x k * flC n (G a) k) = S n (fun k => flC n (G a) k * pw (toF x) (n - 1 - k)) := S_congr fun k hk => by
    show toF (gM (vdR n) x k) * _ = _
    rw [vdR, gM_mat _ hx hk, toF_emod, pw_toF]; grind
  have e2 := chi_eq n h9 (G a) (toF x)
  have e3 : D n (fun i k => (if i = k then toF x else 0) - G a i k) = D n (G (lessM a n x)) := D_congr n _ _ fun i k hi hk => by
    show _ = toF (gM (lessM a n x) i k)
    rw [lessM, gM_mat _ hi hk]
    unfold lessE
    by_cases e : i = k
    · rw [if_pos e, if_pos e, toF_emod, toF_add, toF_emod, toF_sub, toF_p]
      show toF (x : Int) - toF (gM a i k) = _; grind
    · rw [if_neg e, if_neg e, toF_emod, toF_sub, toF_p]; rfl
  rw [e1, charB, getD_map_range _ _ hx, charE, toF_emod, toF_sub, toF_emod, pw_toF, detM_eq (okM_lessM a n x), ← e3, e2]; grind
theorem vd_one {n : Nat} (h9 : n < 60000) {b : List Int} {y z : Nat → Fp} (hy : SolL (vdR n) b n n y) (hz : SolL (vdR n) b n n z) : ∀ i, i < n → y i = z i := by
  have e : ∀ (u : Nat → Fp) x, x < n → S n (fun k => G (vdR n) x k * u k) = ev n (fun j => u (n - 1 - j)) (toF (x : Int)) := fun u x hx => by
    unfold ev
    rw [S_turn' n]
    refine S_congr fun j hj => ?_
    show toF (gM (vdR n) x (n - 1 - j)) * _ = _
    rw [vdR, gM_mat _ hx (by omega), toF_emod, pw_toF, show n - 1 - (n - 1 - j) = j by omega]; grind
  have hc := coeffs (d := n) (k := 0) (a := fun j => y (n - 1 - j)) (b := fun j => z (n - 1 - j)) (by omega) (fun x _ hx => by
    rw [← e y x (by omega), ← e z x (by omega), hy x (by omega), hz x (by omega)])
  intro i hi
  have := hc (n - 1 - i) (by omega)
  simp only [show n - 1 - (n - 1 - i) = i by omega] at this
  exact this
where
  S_turn' (n : Nat) (f : Nat → Fp) : S n f = S n (fun i => f (n - 1 - i)) := by
    induction n with
    | zero => rfl
    | succ n ih =>
      rw [S, ih, S_first n (fun i => f (n + 1 - 1 - i)), S_congr (n := n) (f := fun i => f (n + 1 - 1 - (i + 1))) (g := fun i => f (n - 1 - i)) (fun i _ => by rw [show n + 1 - 1 - (i + 1) = n - 1 - i by omega])]
      simp only [Nat.add_sub_cancel, Nat.sub_zero]; grind
theorem charR_sol {a : List (List Int)} {n : Nat} (ha : okM a n n) (hn : 0 < n) (h9 : n < 60000) : solvedM (vdR n) (charB a n) n = some (chP a n n).2 := by
  have hs := solvedM_complete (okM_vdR n) (charB_bd a n) (charB_len a n) (vd_sol (a := a) h9)
  obtain ⟨h1, h2, h3⟩ := solvedM_sound (okM_vdR n) (charB_bd a n) (charB_len a n) hs
  obtain ⟨-, c2, c3, c4⟩ := chP_eq ha hn h9 n (Nat.le_refl _)
  have hone := vd_one h9 h3 (vd_sol (a := a) h9)
  rw [hs]
  congr 1
  apply List.ext_getElem (by rw [h1, c2])
  intro i p q
  have e1 : (fillX (sysM (vdR n) (charB a n) n) n)[i] = (fillX (sysM (vdR n) (charB a n) n) n).getD i 0 := by rw [List.getD_eq_getElem?_getD, List.getElem?_eq_getElem p]; rfl
  have e2 : (chP a n n).2[i] = (chP a n n).2.getD i 0 := by rw [List.getD_eq_getElem?_getD, List.getElem?_eq_getElem q]; rfl
  refine toF_inj (h2 _ (List.getElem_mem _)) (c4 _ (List.getElem_mem _)) ?_
  rw [e1, e2, hone i (by omega), c3 i (by omega)]
theorem charR_ref (a : List (List Int)) : charR a = refCharR a := by
  unfold charR refCharR
  by_cases h0 : squareM a ≠ 0
  · rw [if_pos h0, if_pos h0]
  · rw [if_neg h0, if_neg h0]
    obtain ⟨hok, h1, h2⟩ := squareM_ok (by simpa using h0)
    rw [refCharL, charR_sol hok (by omega) (by omega)]; rfl
end Go.Proofs.YtfljkcmijnhgkaaDoor

namespace Go.Proofs.YtfljkcmijnhgkaaDoor

theorem checkM_of {rs : List (List Int)} {n m : Nat} (h : okM rs n m) (h1 : 1 ≤ n) (h2 : n ≤ 12) (h3 : 1 ≤ m) (h4 : m ≤ 12) : checkM rs = 0 := by
  have hl := h.len0 (by omega)
  rw [checkM_pass (by rw [h.1, hl]; omega), hl]
  rw [if_neg (by
    rw [Bool.not_eq_true, List.any_eq_false]
    intro r hr
    rw [(h.2 r hr).1]; simp), if_neg (by
    rw [Bool.not_eq_true, List.any_eq_false]
    intro r hr
    simp only [Bool.not_eq_true, Bool.not_eq_false', isRes, List.all_eq_true]
    intro x hx
    have := (h.2 r hr).2 x hx
    simp [isN]; omega)]
theorem squareM_of {rs : List (List Int)} {n : Nat} (h : okM rs n n) (h1 : 1 ≤ n) (h2 : n ≤ 12) : squareM rs = 0 := by
  rw [squareM, checkM_of h h1 h2 h1 h2, if_neg (by simp), h.1, h.len0 (by omega), if_neg (by simp)]
theorem isRes_of {xs : List Int} (h : ∀ x ∈ xs, 0 ≤ x ∧ x < 65521) : isRes xs = true := by
  rw [isRes, List.all_eq_true]; intro x hx; have := h x hx; simp [isN]; omega
theorem mul_mul (n : Nat) (A B C : Mx) (i k : Nat) : mul n (mul n A B) C i k = mul n A (mul n B C) i k := by
  unfold mul
  rw [S_congr (g := fun j => S n (fun q => A i q * B q j * C j k)) (fun j _ => (S_mul' n _ _).symm), S_swap]
  exact S_congr fun q _ => by rw [← S_mul]; exact S_congr fun j _ => by grind
theorem G_idM {n i k : Nat} (hi : i < n) (hk : k < n) : G (idM n) i k = one i k := by
  show toF (gM (idM n) i k) = one i k
  rw [idM, gM_mat _ hi hk]; unfold one; split <;> rfl
section
variable {a b c : List (List Int)} {n : Nat}
theorem mul_congr' {A B C : Mx} (h : ∀ i q, i < n → q < n → B i q = C i q) {i q : Nat} (hi : i < n) : mul n B A i q = mul n C A i q := S_congr fun j hj => by rw [h i j hi hj]
theorem prodM_assoc (ha : okM a n n) (hb : okM b n n) (hc : okM c n n) (hn : 0 < n) : prodM (prodM a b) c = prodM a (prodM b c) := by
  have h1 := okM_prodn ha hb hn
  have h2 := okM_prodn hb hc hn
  refine okM_ext (okM_prodn h1 hc hn) (okM_prodn ha h2 hn) fun i k hi hk => ?_
  rw [G_prod h1 hc hn hi hk, G_prod ha h2 hn hi hk, mul_congr' (fun i q hi hq => G_prod ha hb hn hi hq) hi, mul_congr (G a) (fun i q hi hq => G_prod hb hc hn hi hq) hk, mul_mul]
theorem prodM_id (ha : okM a n n) (hn : 0 < n) : prodM a (idM n) = a := by
  refine okM_ext (okM_prodn ha (okM_id n) hn) ha fun i k hi hk => ?_
  rw [G_prod ha (okM_id n) hn hi hk, mul_congr (G a) (fun i q hi hq => G_idM hi hq) hk]
  exact inv_right.one_sum' _ hk
theorem id_prodM (ha : okM a n n) (hn : 0 < n) : prodM (idM n) a = a := by
  refine okM_ext (okM_prodn (okM_id n) ha hn) ha fun i k hi hk => ?_
  rw [G_prod (okM_id n) ha hn hi hk, mul_congr' (fun i q hi hq => G_idM hi hq) hi]
  show S n _ = _
  rw [S_one (k := i) hi (fun j _ hne => by simp only [one]; rw [if_neg (fun e => hne e.symm)]; grind)]; simp only [one, if_true]; grind
/-- The power, by its exponent. -/
def powL (a : List (List Int)) (n : Nat) : Nat → List (List Int)
  | 0 => idM n
  | e + 1 => prodM a (powL a n e)
theorem okM_powL (ha : okM a n n) (hn : 0 < n) (e : Nat) : okM (powL a n e) n n := by
  induction e with
  | zero => exact okM_id n
  | succ e ih => exact okM_prodn ha ih hn
theorem powL_add (ha : okM a n n) (hn : 0 < n) (e f : Nat) : powL a n (e + f) = prodM (powL a n e) (powL a n f) := by
  induction e with
  | zero => rw [Nat.zero_add]; exact (id_prodM (okM_powL ha hn f) hn).symm
  | succ e ih =>
    rw [show e + 1 + f = (e + f) + 1 by omega]
    show prodM a (powL a n (e + f)) = prodM (prodM a (powL a n e)) (powL a n f)
    rw [ih, prodM_assoc ha (okM_powL ha hn e) (okM_powL ha hn f) hn]
theorem powL_sq (ha : okM a n n) (hn : 0 < n) (e : Nat) : powL (prodM a a) n e = powL a n (e + e) := by
  induction e with
  | zero => rfl
  | succ e ih =>
    rw [show e + 1 + (e + 1) = (e + e) + 1 + 1 by omega]
    show prodM (prodM a a) (powL (prodM a a) n e) = prodM a (prodM a (powL a n (e + e)))
    rw [ih, prodM_assoc ha ha (okM_powL ha hn _) hn]
theorem powF_eq (hn : 0 < n) : ∀ (f : Nat) (o a : List (List Int)) (e : Nat), okM o n n → okM a n n → e < 2 ^ f → powF f o a e = prodM o (powL a n e)
  | 0, o, a, e, ho, ha, he => by
    have : e = 0 := by simpa using he
    subst this
    exact (prodM_id ho hn).symm
  | f + 1, o, a, e, ho, ha, he => by
    by_cases h0 : e = 0
    · subst h0; rw [powF, if_pos rfl]; exact (prodM_id ho hn).symm
    · have h2 : e / 2 < 2 ^ f := by rw [Nat.pow_succ] at he; omega
      rw [powF, if_neg h0]
      by_cases hodd : e % 2 = 1
      · rw [if_pos hodd, powF_eq hn f _ _ _ (okM_prodn ho ha hn) (okM_prodn ha ha hn) h2, powL_sq ha hn, prodM_assoc ho ha (okM_powL ha hn _) hn]
        have e2 : e = (e / 2 + e / 2) + 1 := by omega
        conv => rhs; rw [e2]
        rfl
      · rw [if_neg hodd, powF_eq hn f _ _ _ ho (okM_prodn ha ha hn) h2, powL_sq ha hn, show e / 2 + e / 2 = e by omega]
theorem powMat_eq (ha : okM a n n) (hn : 0 < n) {e : Nat} (he : e < 18446744073709551616) : powMat a e = powL a n e := by
  rw [powMat, ha.1, powF_eq hn 64 _ _ _ (okM_id n) ha (by simpa using he), id_prodM (okM_powL ha hn e) hn]
theorem detM_prod (ha : okM a n n) (hb : okM b n n) (hn : 0 < n) : detM (prodM a b) = detM a * detM b % 65521 := by
  refine toF_inj (detM_bd _ (okM_prodn ha hb hn)) ⟨Int.emod_nonneg _ (by decide), Int.emod_lt_of_pos _ (by decide)⟩ ?_
  rw [detM_eq (okM_prodn ha hb hn), toF_emod, toF_mul, detM_eq ha, detM_eq hb, ← D_mul]
  exact D_congr n _ _ fun i k hi hk => G_prod ha hb hn hi hk
end
end Go.Proofs.YtfljkcmijnhgkaaDoor
