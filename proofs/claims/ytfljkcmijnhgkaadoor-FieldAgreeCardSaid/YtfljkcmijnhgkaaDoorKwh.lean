/- Sequences that agree for long enough agree for ever; what fits; the shortest rules. The shortest rules of sequences: what FieldShort and FieldAgree look at. The longer rule of FieldAgree, as it is made; three lists of the call's own. -/
import Derived.Test.YtfljkcmijnhgkaaDoorKwd
import Derived.Test.YtfljkcmijnhgkaaDoorKwg
import Derived.Test.YtfljkcmijnhgkaaDoorKwb
import Derived.Test.YtfljkcmijnhgkaaDoorKf
import Derived.Test.YtfljkcmijnhgkaaDoorKh
import Derived.Test.YtfljkcmijnhgkaaDoorKj
import Derived.Laws.IdiomCopy
import Derived.Test.YtfljkcmijnhgkaaDoorKwf
namespace Go.Proofs.YtfljkcmijnhgkaaDoor
theorem rec_zero {u : Nat → Fp} {k : Nat} {f : Nat → Fp} (h : ∀ t, u (t + k) = S k (fun i => f i * u (t + i))) (h0 : ∀ t, t < k → u t = 0) : ∀ t, u t = 0 := fun t => by
  induction t using Nat.strongRecOn with
  | _ t ih =>
    by_cases ht : t < k
    · exact h0 t ht
    · obtain ⟨q, rfl⟩ : ∃ q, t = q + k := ⟨t - k, by omega⟩
      rw [h]; exact S_zero fun i hi => by rw [ih (q + i) (by omega)]; grind
/-- Two recurrences that agree for as many terms as both orders have together agree for ever. -/
theorem seq_agree {a b : Nat → Fp} {m n : Nat} {c d : Nat → Fp} (ha : ∀ t, a (t + m) = S m (fun i => c i * a (t + i))) (hb : ∀ t, b (t + n) = S n (fun i => d i * b (t + i))) (h : ∀ t, t < m + n → a t = b t) : ∀ t, a t = b t := fun t => by
  have hb' : ∀ t, (fun t => - b t) (t + n) = S n (fun i => d i * (fun t => - b t) (t + i)) := fun t => by
    show - b (t + n) = _
    rw [hb, ← S_neg]; exact S_congr fun i _ => by show _ = d i * - b (t + i); grind
  obtain ⟨k, hk, f, hf⟩ := sum_rec (b := fun t => - b t) ha hb'
  have h1 := rec_zero (u := fun t => a t + - b t) hf (fun t ht => by show a t + - b t = 0; rw [h t (by omega)]; grind) t
  have h2 : a t + - b t = 0 := h1
  grind
/-- A rule of an order, of residues. -/
def okR (r : Rule) (k : Nat) : Prop := okL r.by_ k ∧ okL r.start k
theorem okR.rec {r : Rule} {k : Nat} (h : okR r k) (t : Nat) : seqF r (t + k) = S k (fun i => toF (r.by_.getD (k - 1 - i) 0) * seqF r (t + i)) := by
  have := seq_rec (r := r) (by rw [h.1.1, h.2.1]) t
  rwa [h.1.1] at this
theorem okR.bd {r : Rule} {k : Nat} (h : okR r k) (t : Nat) : 0 ≤ termK r t ∧ termK r t < 65521 := termK_bd h.2.2 t
theorem okR.right {r : Rule} {k : Nat} (h : okR r k) (hk : k ≤ 12) : rightR r = 0 := by
  rw [rightR, h.1.1, h.2.1, if_neg (by omega), if_neg (by omega), isRes_of h.1.2, isRes_of h.2.2, if_neg (by simp)]
theorem term_eq {r s : Rule} {m n : Nat} (hr : okR r m) (hs : okR s n) {t : Nat} (h : seqF r t = seqF s t) : termK r t = termK s t := toF_inj (hr.bd t) (hs.bd t) h
theorem first_eq {r s : Rule} {m n : Nat} (hr : okR r m) (hs : okR s n) {N : Nat} (h : ∀ t, t < N → seqF r t = seqF s t) : firstL r N = firstL s N :=
  ext_getD (by rw [firstL_len, firstL_len]) fun j hj => by
    rw [firstL_len] at hj
    rw [firstL_get _ _ _ hj, firstL_get _ _ _ hj]; exact term_eq hr hs (h j hj)
theorem first_seq {r : Rule} {N j : Nat} (hj : j < N) : toF ((firstL r N).getD j 0) = seqF r j := by rw [firstL_get _ _ _ hj]; rfl
theorem take_getD (l : List Int) {o j : Nat} (hj : j < o) : (l.take o).getD j 0 = l.getD j 0 := by
  rw [List.getD_eq_getElem?_getD, List.getElem?_take, if_pos hj, ← List.getD_eq_getElem?_getD]
theorem drop_getD (l : List Int) (o i : Nat) : (l.drop o).getD i 0 = l.getD (o + i) 0 := by
  rw [List.getD_eq_getElem?_getD, List.getElem?_drop, ← List.getD_eq_getElem?_getD]
theorem okL_take {l : List Int} (hb : ∀ x ∈ l, 0 ≤ x ∧ x < 65521) {o : Nat} (ho : o ≤ l.length) : okL (l.take o) o :=
  ⟨by rw [List.length_take]; omega, fun x hx => hb x (List.mem_of_mem_take hx)⟩
theorem okL_drop {l : List Int} (hb : ∀ x ∈ l, 0 ≤ x ∧ x < 65521) (o : Nat) : okL (l.drop o) (l.length - o) :=
  ⟨by rw [List.length_drop], fun x hx => hb x (List.mem_of_mem_drop hx)⟩
theorem rows_sum (l : List Int) {o i : Nat} (hi : i < l.length - o) (bs : List Int) : S o (fun k => G (rowsL l o) i k * toF (bs.getD k 0)) = S o (fun q => toF (bs.getD (o - 1 - q) 0) * toF (l.getD (i + q) 0)) := by
  rw [S_turn]
  refine S_congr fun q hq => ?_
  have e : G (rowsL l o) i (o - 1 - q) = toF (l.getD (i + q) 0) := by
    show toF (gM _ i _) = _
    rw [rowsL, gM_mat _ hi (by omega), show o + i - 1 - (o - 1 - q) = i + q by omega]
  rw [e]; grind
/-- A rule fits just if the list is its first terms. -/
theorem fit_iff {l : List Int} (hb : ∀ x ∈ l, 0 ≤ x ∧ x < 65521) {o : Nat} (ho : o ≤ l.length) {bs : List Int} (hbs : okL bs o) : SolL (rowsL l o) (l.drop o) (l.length - o) o (fun k => toF (bs.getD k 0)) ↔ firstL ⟨bs, l.take o⟩ l.length = l := by
  have hr : okR ⟨bs, l.take o⟩ o := ⟨hbs, okL_take hb ho⟩
  constructor
  · intro hs
    refine ext_getD (firstL_len _ _) fun j hj => ?_
    rw [firstL_len] at hj
    rw [firstL_get _ _ _ hj]
    refine toF_inj (hr.bd j) (getD_bd hb j) ?_
    induction j using Nat.strongRecOn with
    | _ j ih =>
      by_cases h : j < o
      · rw [termK, if_pos (by rw [hr.2.1]; exact h), take_getD l h]
      · obtain ⟨i, rfl⟩ : ∃ i, j = i + o := ⟨j - o, by omega⟩
        have h1 := hr.rec i
        have h2 := hs i (by omega)
        rw [rows_sum l (by omega), drop_getD, Nat.add_comm o i] at h2
        rw [← h2]
        show seqF _ _ = _
        rw [h1]
        refine S_congr fun q hq => ?_
        have h3 := ih (i + q) (by omega) (by omega)
        show _ * seqF _ _ = _
        rw [show seqF ⟨bs, l.take o⟩ (i + q) = toF (l.getD (i + q) 0) from h3]
  · intro e i hi
    have hg : ∀ j, j < l.length → toF (l.getD j 0) = seqF ⟨bs, l.take o⟩ j := fun j hj => by
      have h := first_seq (r := ⟨bs, l.take o⟩) hj
      rwa [e] at h
    rw [rows_sum l hi, drop_getD, hg _ (by omega), Nat.add_comm o i, hr.rec i]
    exact S_congr fun q hq => by rw [hg _ (by omega)]
theorem fit_some {l : List Int} (hb : ∀ x ∈ l, 0 ≤ x ∧ x < 65521) {o : Nat} (ho : o ≤ l.length) {bs : List Int} (h : fitO l o = some bs) : okL bs o ∧ firstL ⟨bs, l.take o⟩ l.length = l ∧ ∀ x, okL x o → firstL ⟨x, l.take o⟩ l.length = l → ∀ c, CmpR bs x c → c ≤ 0 := by
  obtain ⟨h1, h2, h3⟩ := sol_found (okM_rowsL hb o) (okL_drop hb o) h
  refine ⟨h1, (fit_iff hb ho h1).1 ((sol_pv (okM_rowsL hb o) (okL_drop hb o) h1).2 h2), fun x hx e c hc => h3 x hx ?_ c hc⟩
  exact (sol_pv (okM_rowsL hb o) (okL_drop hb o) hx).1 ((fit_iff hb ho hx).2 e)
theorem fit_there {l : List Int} (hb : ∀ x ∈ l, 0 ≤ x ∧ x < 65521) {o : Nat} (ho : o ≤ l.length) {x : List Int} (hx : okL x o) (e : firstL ⟨x, l.take o⟩ l.length = l) : fitO l o ≠ none :=
  sol_there (okM_rowsL hb o) (okL_drop hb o) hx ((sol_pv (okM_rowsL hb o) (okL_drop hb o) hx).1 ((fit_iff hb ho hx).2 e))
theorem least_ex {p : Nat → Prop} : ∀ n, p n → ∃ k, p k ∧ k ≤ n ∧ ∀ j, j < k → ¬ p j := fun n => by
  induction n using Nat.strongRecOn with
  | _ n ih =>
    intro h
    by_cases h2 : ∃ j, j < n ∧ p j
    · obtain ⟨j, h3, h4⟩ := h2
      obtain ⟨k, h5, h6, h7⟩ := ih j h3 h4
      exact ⟨k, h5, by omega, h7⟩
    · exact ⟨n, h, Nat.le_refl _, fun j hj hp => h2 ⟨j, hj, hp⟩⟩
/-- The rule that is found. -/
theorem fitM_found {l : List Int} {most k : Nat} (hk : k ≤ min most l.length) (hs : fitO l k ≠ none) : ∃ o bs, o ≤ k ∧ fitO l o = some bs ∧ (∀ j, j < o → fitO l j = none) ∧ fitM l most = some ⟨bs, l.take o⟩ := by
  obtain ⟨o, h1, h2, h3⟩ := least_ex (p := fun o => fitO l o ≠ none) k hs
  obtain ⟨bs, hbs⟩ := Option.ne_none_iff_exists'.1 h1
  have h4 : ∀ j, j < o → fitO l j = none := fun j hj => Classical.byContradiction fun hn => h3 j hj hn
  exact ⟨o, bs, h2, hbs, h4, fitM_some rfl (by omega) h4 hbs⟩
/-- A sequence is that of no shorter rule. -/
def MinR (u : Rule) (k : Nat) : Prop := ∀ p j, j < k → okR p j → ¬ ∀ t, seqF p t = seqF u t
theorem two_rules {l : List Int} (hb : ∀ x ∈ l, 0 ≤ x ∧ x < 65521) {o : Nat} (ho : 2 * o ≤ l.length) {x y : List Int} (hx : okL x o) (hy : okL y o) (ex : firstL ⟨x, l.take o⟩ l.length = l) (ey : firstL ⟨y, l.take o⟩ l.length = l) (hne : x ≠ y) : ∃ j, j < o ∧ fitO l j ≠ none := by
  have hr : okR ⟨x, l.take o⟩ o := ⟨hx, okL_take hb (by omega)⟩
  have hg : ∀ j, j < l.length → toF (l.getD j 0) = seqF ⟨x, l.take o⟩ j := fun j hj => by
    have h := first_seq (r := ⟨x, l.take o⟩) hj
    rwa [ex] at h
  have sx := (fit_iff hb (by omega) hx).2 ex
  have sy := (fit_iff hb (by omega) hy).2 ey
  have hd : ∃ k, k < o ∧ toF (x.getD (o - 1 - k) 0) - toF (y.getD (o - 1 - k) 0) ≠ 0 := Classical.byContradiction fun hn => hne (okL_ext hx hy fun k hk => by
    have h : ¬ (toF (x.getD (o - 1 - (o - 1 - k)) 0) - toF (y.getD (o - 1 - (o - 1 - k)) 0) ≠ 0) := fun h => hn ⟨o - 1 - k, by omega, h⟩
    rw [show o - 1 - (o - 1 - k) = k by omega] at h
    have h2 := Classical.not_not.1 h
    grind)
  obtain ⟨n, hn, hdn, hgt⟩ := greatest (x := fun k => toF (x.getD (o - 1 - k) 0) - toF (y.getD (o - 1 - k) 0)) hd
  have h0 : ∀ i, i < l.length - o → S (n + 1) (fun q => (toF (x.getD (o - 1 - q) 0) - toF (y.getD (o - 1 - q) 0)) * seqF ⟨x, l.take o⟩ (i + q)) = 0 := fun i hi => by
    have h1 := sx i hi
    have h2 := sy i hi
    rw [rows_sum l hi] at h1 h2
    have h3 : S o (fun q => (toF (x.getD (o - 1 - q) 0) - toF (y.getD (o - 1 - q) 0)) * toF (l.getD (i + q) 0)) = 0 := by
      rw [S_congr (g := fun q => toF (x.getD (o - 1 - q) 0) * toF (l.getD (i + q) 0) - toF (y.getD (o - 1 - q) 0) * toF (l.getD (i + q) 0)) (fun q _ => by grind), S_sub, h1, h2]; grind
    rw [S_trunc (k := n + 1) (by omega) (fun q h4 h5 => by rw [hgt q (by omega) h5]; grind)] at h3
    rw [← h3]
    exact S_congr fun q hq => by rw [hg _ (by omega)]
  have hm := mul_inv hdn
  generalize hD : (fun k => toF (x.getD (o - 1 - k) 0) - toF (y.getD (o - 1 - k) 0)) = D at *
  have hD' : ∀ k, toF (x.getD (o - 1 - k) 0) - toF (y.getD (o - 1 - k) 0) = D k := fun k => by rw [← hD]
  simp only [hD'] at h0 hm hdn
  have hsm : ∀ i, i < l.length - o → seqF ⟨x, l.take o⟩ (i + n) = S n (fun q => - inv (D n) * D q * seqF ⟨x, l.take o⟩ (i + q)) := fun i hi => by
    have h := h0 i hi
    rw [S] at h
    rw [S_congr (g := fun q => - inv (D n) * (D q * seqF ⟨x, l.take o⟩ (i + q))) (fun q _ => by grind), S_mul]
    generalize S n (fun q => D q * seqF ⟨x, l.take o⟩ (i + q)) = T at *
    grind
  have hall := rec_zero (u := fun t => seqF ⟨x, l.take o⟩ (t + n) - S n (fun q => - inv (D n) * D q * seqF ⟨x, l.take o⟩ (t + q))) (k := o) (f := fun i => toF (x.getD (o - 1 - i) 0)) (fun t => by
    show seqF _ (t + o + n) - S n (fun q => _ * seqF _ (t + o + q)) = S o (fun i => _ * (seqF _ (t + i + n) - S n (fun q => _ * seqF _ (t + i + q))))
    have hrec := fun t => hr.rec t
    simp only [] at hrec
    rw [show t + o + n = (t + n) + o by omega, hrec (t + n), S_congr (n := n) (g := fun q => S o (fun i => toF (x.getD (o - 1 - i) 0) * (- inv (D n) * D q * seqF ⟨x, l.take o⟩ (t + i + q)))) (fun q _ => by
      rw [show t + o + q = (t + q) + o by omega, hrec (t + q), ← S_mul]; exact S_congr fun i _ => by rw [show t + q + i = t + i + q by omega]; grind), S_swap, ← S_sub]
    exact S_congr fun i _ => by rw [S_mul, show t + n + i = t + i + n by omega]; grind) (fun t ht => by
    show seqF _ (t + n) - S n _ = 0
    rw [hsm t (by omega)]; grind)
  refine ⟨n, hn, ?_⟩
  have := fit_of_rec hb hg (k := n) (by omega) (c := fun q => - inv (D n) * D q) (fun t => by
    have h : seqF ⟨x, l.take o⟩ (t + n) - S n (fun q => - inv (D n) * D q * seqF ⟨x, l.take o⟩ (t + q)) = 0 := hall t
    grind)
  intro e; rw [e] at this; cases this
/-- The rule that is found of a recurrence is the shortest one, and goes on as it does. -/
theorem fit_min {l : List Int} (hb : ∀ x ∈ l, 0 ≤ x ∧ x < 65521) {f : Nat → Fp} (hl : ∀ j, j < l.length → toF (l.getD j 0) = f j) {K : Nat} {c : Nat → Fp} (hrec : ∀ t, f (t + K) = S K (fun i => c i * f (t + i))) (hK : 2 * K ≤ l.length) {most : Nat} (hm : K ≤ most) : ∃ u k, fitM l most = some u ∧ okR u k ∧ k ≤ K ∧ u.start = l.take k ∧ (∀ t, seqF u t = f t) ∧ MinR u k := by
  have h1 := fit_of_rec hb hl (by omega) hrec
  obtain ⟨o, bs, h2, h3, h4, h5⟩ := fitM_found (l := l) (most := most) (k := K) (by omega) (by intro e; rw [e] at h1; cases h1)
  obtain ⟨h6, h7, -⟩ := fit_some hb (by omega) h3
  have hr : okR ⟨bs, l.take o⟩ o := ⟨h6, okL_take hb (by omega)⟩
  have hg : ∀ t, seqF ⟨bs, l.take o⟩ t = f t := seq_agree hr.rec hrec fun t ht => by
    have h := first_seq (r := ⟨bs, l.take o⟩) (N := l.length) (j := t) (by omega)
    rw [h7, hl _ (by omega)] at h; exact h.symm
  refine ⟨_, o, h5, hr, h2, rfl, hg, fun p j hj hp he => ?_⟩
  have hpl : firstL p l.length = l := ext_getD (firstL_len _ _) fun i hi => by
    rw [firstL_len] at hi
    rw [firstL_get _ _ _ hi]
    refine toF_inj (hp.bd i) (getD_bd hb i) ?_
    show seqF p i = _
    rw [he i, hg i, hl i hi]
  have hst : p = ⟨p.by_, l.take j⟩ := by
    have h := firstL_take p (n := j) (k := l.length) (by omega)
    rw [hpl, firstL_start p j (by rw [hp.2.1]; exact Nat.le_refl _)] at h
    rw [h, List.take_of_length_le (l := p.start) (by rw [hp.2.1]; exact Nat.le_refl _)]
  rw [hst] at hpl
  exact fit_there hb (by omega) hp.1 hpl (h4 j hj)
/-- A shortest rule is found of twice as many terms as its order. -/
theorem min_fit {u : Rule} {k N most : Nat} (hu : okR u k) (hm : MinR u k) (hN : 2 * k ≤ N) (hk : k ≤ most) : fitM (firstL u N) most = some u := by
  have hb := firstL_bd hu.2.2 N
  have hlen := firstL_len u N
  obtain ⟨v, j, h1, h2, h3, h4, h5, h6⟩ := fit_min (l := firstL u N) hb (f := seqF u) (fun j hj => first_seq (by rw [hlen] at hj; exact hj)) hu.rec (by rw [hlen]; exact hN) hk
  have hjk : j = k := Classical.byContradiction fun hne => hm v j (by omega) h2 h5
  subst hjk
  rw [h1]
  have hs : v.start = u.start := by
    rw [h4, firstL_take u (by omega), firstL_start u j (by rw [hu.2.1]; exact Nat.le_refl _), List.take_of_length_le (by rw [hu.2.1]; exact Nat.le_refl _)]
  have ev : v = ⟨v.by_, (firstL u N).take j⟩ := by rw [← h4]
  have eu : u = ⟨u.by_, (firstL u N).take j⟩ := by rw [← h4, hs]
  have hf : firstL v N = firstL u N := first_eq h2 hu fun t _ => h5 t
  by_cases he : v.by_ = u.by_
  · have : v = u := by cases v; cases u; simp only [] at he hs; rw [he, hs]
    rw [this]
  · exfalso
    obtain ⟨i, hi, hfi⟩ := two_rules (l := firstL u N) hb (o := j) (by rw [hlen]; exact hN) h2.1 hu.1 (by rw [← ev, hlen]; exact hf) (by rw [← eu, hlen]) he
    obtain ⟨bs, hbs⟩ := Option.ne_none_iff_exists'.1 hfi
    obtain ⟨g1, g2, -⟩ := fit_some hb (by rw [hlen]; omega) hbs
    have hp : okR ⟨bs, (firstL u N).take i⟩ i := ⟨g1, okL_take hb (by rw [hlen]; omega)⟩
    refine hm _ i hi hp (seq_agree hp.rec hu.rec fun t ht => ?_)
    rw [hlen] at g2
    have h := first_seq (r := ⟨bs, (firstL u N).take i⟩) (N := N) (j := t) (by omega)
    rw [g2] at h
    rw [← h, first_seq (by omega)]
end Go.Proofs.YtfljkcmijnhgkaaDoor

namespace Go.Proofs.YtfljkcmijnhgkaaDoor
theorem short_self {u : Rule} {k : Nat} (hu : okR u k) (hm : MinR u k) (hk : k ≤ 12) : shortR u = (u, 0) := by
  rw [shortR, if_neg (by simpa using hu.right hk), hu.1.1, min_fit hu hm (Nat.le_refl _) (Nat.le_refl _)]; rfl
/-- What joins of longer lists tell. -/
theorem joinT_seq (h : Nat) (r s : Rule) {N j : Nat} (hj : j < N) : toF (joinT h (firstL r N) (firstL s N) j) = joinF h r s j := by
  match h with
  | 0 => show toF ((_ + _) % 65521) = _; rw [toF_emod, toF_add, firstL_get _ _ _ hj, firstL_get _ _ _ hj]; rfl
  | 1 => show toF (_ * _ % 65521) = _; rw [toF_emod, toF_mul, firstL_get _ _ _ hj, firstL_get _ _ _ hj]; rfl
  | h + 2 =>
    show toF (psum _ _ % 65521) = _
    rw [toF_emod, toF_psum]
    show _ = fold (seqF r) (seqF s) 0 j
    unfold fold
    refine S_congr fun i hi => ?_
    rw [toF_emod, toF_mul, firstL_get _ _ _ (by omega), firstL_get _ _ _ (by omega), Nat.add_zero]; rfl
theorem joined_law (h : Nat) {r s : Rule} {m n : Nat} (hr : okR r m) (hs : okR s n) (hm : m ≤ 12) (hn : n ≤ 12) (ho : joinO h m n ≤ 12) : ∃ u k, joinR h r s = (u, 0) ∧ okR u k ∧ k ≤ joinO h m n ∧ (∀ t, seqF u t = joinF h r s t) ∧ MinR u k := by
  obtain ⟨K, hK, f, hf⟩ := joinF_rec (h := h) (r := r) (s := s) (by rw [hr.1.1, hr.2.1]) (by rw [hs.1.1, hs.2.1])
  rw [hr.1.1, hs.1.1] at hK
  have hjl := joinL_len h r s
  rw [hr.1.1, hs.1.1] at hjl
  obtain ⟨u, k, h1, h2, h3, -, h4, h5⟩ := fit_min (l := joinL h r s) (joinL_bd h r s) (joinL_get h r s) hf (by rw [hjl]; omega) (most := joinO h m n) hK
  refine ⟨u, k, ?_, h2, by omega, h4, h5⟩
  have hb : bothR r s = 0 := by rw [bothR, if_neg (by simpa using hr.right hm)]; exact hs.right hn
  exact joinR_some hb rfl rfl rfl (by rw [hr.1.1, hs.1.1, Nat.min_eq_left ho]; exact h1)
theorem joined_first (h : Nat) {r s u : Rule} {k : Nat} (hu : okR u k) (he : ∀ t, seqF u t = joinF h r s t) (N : Nat) : firstL u N = (List.range N).map (joinT h (firstL r N) (firstL s N)) :=
  ext_getD (by rw [firstL_len]; simp) fun j hj => by
    rw [firstL_len] at hj
    rw [firstL_get _ _ _ hj, List.getD_eq_getElem?_getD, List.getElem?_map, List.getElem?_range hj]
    refine toF_inj (hu.bd j) (joinT_bd _ _ _ _) ?_
    show seqF u j = _
    rw [he j]; exact (joinT_seq h r s hj).symm
theorem term_sum {r s u : Rule} {m n k : Nat} (_hr : okR r m) (_hs : okR s n) (hu : okR u k) (he : ∀ t, seqF u t = joinF 0 r s t) (t : Nat) : termK u t = (termK r t + termK s t) % 65521 := by
  refine toF_inj (hu.bd t) ⟨Int.emod_nonneg _ (by decide), Int.emod_lt_of_pos _ (by decide)⟩ ?_
  rw [toF_emod, toF_add]; exact he t
theorem term_times {r s u : Rule} {m n k : Nat} (_hr : okR r m) (_hs : okR s n) (hu : okR u k) (he : ∀ t, seqF u t = joinF 1 r s t) (t : Nat) : termK u t = termK r t * termK s t % 65521 := by
  refine toF_inj (hu.bd t) ⟨Int.emod_nonneg _ (by decide), Int.emod_lt_of_pos _ (by decide)⟩ ?_
  rw [toF_emod, toF_mul]; exact he t
/-- The first place at which two lists differ. -/
theorem diffL_at {a b : List Int} : ∀ {f i j : Nat}, diffL a b f i = some j → i ≤ j ∧ j < i + f ∧ a.getD j 0 ≠ b.getD j 0 ∧ ∀ q, i ≤ q → q < j → a.getD q 0 = b.getD q 0
  | 0, i, j, h => by cases h
  | f + 1, i, j, h => by
    unfold diffL at h
    by_cases e : a.getD i 0 ≠ b.getD i 0
    · rw [if_pos e] at h
      obtain rfl := Option.some.inj h
      exact ⟨Nat.le_refl _, by omega, e, fun q h1 h2 => by omega⟩
    · rw [if_neg e] at h
      obtain ⟨h1, h2, h3, h4⟩ := diffL_at h
      refine ⟨by omega, by omega, h3, fun q h5 h6 => ?_⟩
      by_cases e2 : q = i
      · subst e2; exact Classical.not_not.1 e
      · exact h4 q (by omega) h6
theorem diffL_no {a b : List Int} : ∀ {f i : Nat}, diffL a b f i = none → ∀ q, i ≤ q → q < i + f → a.getD q 0 = b.getD q 0
  | 0, i, _, q, h1, h2 => by omega
  | f + 1, i, h, q, h1, h2 => by
    unfold diffL at h
    by_cases e : a.getD i 0 ≠ b.getD i 0
    · rw [if_pos e] at h; cases h
    · rw [if_neg e] at h
      by_cases e2 : q = i
      · subst e2; exact Classical.not_not.1 e
      · exact diffL_no h q (by omega) (by omega)
/-- What Apart tells of two right rules. -/
theorem apart_law {r s : Rule} {m n : Nat} (hr : okR r m) (hs : okR s n) (hm : m ≤ 12) (hn : n ≤ 12) :
    (∃ i : Nat, apartR r s = ((i : Int), 0) ∧ i < m + n ∧ termK r i ≠ termK s i ∧ firstL r i = firstL s i) ∨ (apartR r s = (0, 6) ∧ ∀ t, termK r t = termK s t) := by
  have hb : bothR r s = 0 := by rw [bothR, if_neg (by simpa using hr.right hm)]; exact hs.right hn
  rw [apartR, if_neg (by simpa using hb), hr.1.1, hs.1.1]
  cases e : diffL (firstL r (m + n)) (firstL s (m + n)) (m + n) 0 with
  | some i =>
    obtain ⟨-, h2, h3, h4⟩ := diffL_at e
    rw [Nat.zero_add] at h2
    rw [firstL_get _ _ _ h2, firstL_get _ _ _ h2] at h3
    refine Or.inl ⟨i, rfl, h2, h3, ext_getD (by rw [firstL_len, firstL_len]) fun j hj => ?_⟩
    rw [firstL_len] at hj
    have := h4 j (Nat.zero_le _) hj
    rwa [firstL_get _ _ _ (by omega), firstL_get _ _ _ (by omega)] at this ⊢
  | none =>
    refine Or.inr ⟨rfl, fun t => term_eq hr hs (seq_agree hr.rec hs.rec (fun t ht => ?_) t)⟩
    have h := diffL_no e t (Nat.zero_le _) (by omega)
    rw [firstL_get _ _ _ ht, firstL_get _ _ _ ht] at h
    unfold seqF; rw [h]
/-- The same sequence by a longer rule. -/
def altE (bs : List Int) (j : Nat) : Int := (bs.getD j 0 + (if j = 0 then 2 else 65519 * bs.getD (j - 1) 0)) % 65521
def altB (bs : List Int) : List Int := (List.range (bs.length + 1)).map (altE bs)
def altR (r : Rule) : Rule := ⟨altB r.by_, firstL r (r.by_.length + 1)⟩
theorem altR_ok {r : Rule} {m : Nat} (hr : okR r m) : okR (altR r) (m + 1) := by
  refine ⟨⟨by simp [altR, altB, hr.1.1], fun x hx => ?_⟩, ⟨by simp [altR, firstL_len, hr.1.1], fun x hx => firstL_bd hr.2.2 _ x hx⟩⟩
  obtain ⟨j, _, rfl⟩ := List.mem_map.1 hx
  exact ⟨Int.emod_nonneg _ (by decide), Int.emod_lt_of_pos _ (by decide)⟩
theorem toF_65519 : toF 65519 = -2 := by decide
theorem toF_two : toF 2 = 2 := by decide
theorem alt_rec {r : Rule} {m : Nat} (hr : okR r m) (t : Nat) : seqF r (t + (m + 1)) = S (m + 1) (fun i => toF ((altR r).by_.getD (m - i) 0) * seqF r (t + i)) := by
  have e : ∀ j, j ≤ m → toF ((altR r).by_.getD j 0) = toF (r.by_.getD j 0) + (if j = 0 then 2 else - 2 * toF (r.by_.getD (j - 1) 0)) := fun j hj => by
    show toF ((altB r.by_).getD j 0) = _
    rw [altB, getD_map_range _ _ (by rw [hr.1.1]; omega), altE, toF_emod, toF_add]
    by_cases h : j = 0
    · rw [if_pos h, if_pos h, toF_two]
    · rw [if_neg h, if_neg h, toF_mul, toF_65519]
  have h0 : toF (r.by_.getD m 0) = 0 := by
    rw [List.getD_eq_getElem?_getD, List.getElem?_eq_none (by rw [hr.1.1]; exact Nat.le_refl _)]; rfl
  rw [S_turn, S_congr (g := fun j => toF (r.by_.getD j 0) * seqF r (t + (m - j)) + (if j = 0 then 2 else - 2 * toF (r.by_.getD (j - 1) 0)) * seqF r (t + (m - j))) (fun j hj => by
    rw [show m + 1 - 1 - j = m - j by omega, show m - (m - j) = j by omega, e j (by omega)]; grind), S_add, S, h0, S_first]
  simp only [if_pos, Nat.sub_zero]
  have h1 := hr.rec (t + 1)
  have h2 := hr.rec t
  rw [S_turn] at h1 h2
  rw [S_congr (n := m) (f := fun i => (if i + 1 = 0 then (2 : Fp) else _) * _) (g := fun i => - 2 * (toF (r.by_.getD i 0) * seqF r (t + (m - 1 - i)))) (fun i hi => by
    rw [if_neg (by omega), Nat.add_sub_cancel, show m - (i + 1) = m - 1 - i by omega]; grind), S_mul]
  rw [S_congr (g := fun i => toF (r.by_.getD i 0) * seqF r (t + (m - i))) (fun i hi => by
    rw [show m - 1 - (m - 1 - i) = i by omega, show t + 1 + (m - 1 - i) = t + (m - i) by omega])] at h1
  rw [S_congr (g := fun i => toF (r.by_.getD i 0) * seqF r (t + (m - 1 - i))) (fun i hi => by
    rw [show m - 1 - (m - 1 - i) = i by omega])] at h2
  rw [show t + (m + 1) = t + 1 + m by omega, h1]
  generalize S m (fun i => toF (r.by_.getD i 0) * seqF r (t + (m - i))) = A at *
  generalize S m (fun i => toF (r.by_.getD i 0) * seqF r (t + (m - 1 - i))) = B at *
  grind
theorem alt_seq {r : Rule} {m : Nat} (hr : okR r m) : ∀ t, termK (altR r) t = termK r t := fun t => by
  have ho := altR_ok hr
  refine term_eq ho hr ?_
  induction t using Nat.strongRecOn with
  | _ t ih =>
    by_cases h : t < m + 1
    · have h1 : (altR r).start = firstL r (m + 1) := by rw [altR, hr.1.1]
      unfold seqF
      rw [termK, if_pos (by rw [ho.2.1]; exact h), h1, firstL_get _ _ _ h]
    · obtain ⟨q, rfl⟩ : ∃ q, t = q + (m + 1) := ⟨t - (m + 1), by omega⟩
      rw [ho.rec q, alt_rec hr q]
      exact S_congr fun i hi => by rw [ih (q + i) (by omega), Nat.add_sub_cancel]
end Go.Proofs.YtfljkcmijnhgkaaDoor

namespace Go.Proofs.YtfljkcmijnhgkaaDoor
open Go.RowKit Go.Shelf
def alE (bs : List Int) (k j : Nat) : Int := if 1 ≤ j ∧ j ≤ k then (bs.getD j 0 + 65519 * bs.getD (j - 1) 0) % 65521 else bs.getD j 0
def alP (bs : List Int) (k : Nat) : List Int := (List.range (bs.length + 1)).map (alE bs k)
theorem alP_len (bs : List Int) (k : Nat) : (alP bs k).length = bs.length + 1 := by simp [alP]
theorem alP_get (bs : List Int) (k : Nat) {j : Nat} (hj : j ≤ bs.length) : (alP bs k).getD j 0 = alE bs k j := getD_map_range _ _ (by omega)
theorem alP_zero (bs : List Int) : bs ++ [0] = alP bs 0 := by
  refine ext_getD (by simp [alP]) fun j hj => ?_
  have hj' : j ≤ bs.length := by simp at hj; omega
  rw [alP_get bs 0 hj', alE, if_neg (by omega)]
  by_cases h : j < bs.length
  · rw [List.getD_eq_getElem?_getD, List.getElem?_append_left h, ← List.getD_eq_getElem?_getD]
  · obtain rfl : j = bs.length := by omega
    rw [List.getD_eq_getElem?_getD, List.getElem?_append_right (Nat.le_refl _), List.getD_eq_getElem?_getD, List.getElem?_eq_none (Nat.le_refl _), Nat.sub_self]; rfl
theorem alP_set (bs : List Int) {k : Nat} (hk : k < bs.length) : (alP bs k).set (k + 1) ((bs.getD (k + 1) 0 + 65519 * bs.getD k 0) % 65521) = alP bs (k + 1) := by
  refine ext_getD (by simp [alP]) fun j hj => ?_
  have hj' : j ≤ bs.length := by simp [alP] at hj; omega
  rw [alP_get bs (k + 1) hj', List.getD_eq_getElem?_getD, List.getElem?_set]
  by_cases h : k + 1 = j
  · subst h
    rw [if_pos rfl, if_pos (by rw [alP_len]; omega), alE, if_pos (by omega), Nat.add_sub_cancel]; rfl
  · rw [if_neg h, ← List.getD_eq_getElem?_getD, alP_get bs k hj']
    unfold alE
    by_cases h2 : 1 ≤ j ∧ j ≤ k
    · rw [if_pos h2, if_pos (by omega)]
    · rw [if_neg h2, if_neg (by omega)]
theorem alP_end (bs : List Int) : (alP bs bs.length).set 0 ((bs.getD 0 0 + 2) % 65521) = altB bs := by
  refine ext_getD (by simp [alP, altB]) fun j hj => ?_
  have hj' : j ≤ bs.length := by simp [alP] at hj; omega
  rw [show (altB bs).getD j 0 = altE bs j from getD_map_range _ _ (by omega), List.getD_eq_getElem?_getD, List.getElem?_set]
  by_cases h : 0 = j
  · subst h
    rw [if_pos rfl, if_pos (by rw [alP_len]; omega), altE, if_pos rfl]; rfl
  · rw [if_neg h, ← List.getD_eq_getElem?_getD, alP_get bs _ hj', alE, if_pos (by omega), altE, if_neg (by omega)]
/-- What reads as numbers reads so where all blocks but another one are kept. -/
theorem RdI.but {w w' : World} {v : Value} {xs : List Int} {vs : List Value} (h : RdI w v xs) (hk : KeptBut vs w w') (hv : ∀ A l c, v = .slice (some A) l c → ∀ u ∈ vs, u.ownBlock ≠ some A.block) : RdI w' v xs := by
  obtain ⟨A, c, e, h1, h2, h3⟩ := h
  refine ⟨A, c, e, h1, h2, fun hp => ?_⟩
  obtain ⟨b, off, rfl, h4⟩ := h3 hp
  exact ⟨b, off, rfl, fun j u hj => hk.cell (h4 j u hj) (fun u hu => hv ⟨b, off, none⟩ _ _ e u hu)⟩
theorem RdI.btw {w w' : World} {v : Value} {xs : List Int} {lo hi : Nat} (h : RdI w v xs) (hb : Btw lo hi w w') (hv : ∀ A l c, v = .slice (some A) l c → A.block < lo ∨ hi ≤ A.block) : RdI w' v xs := by
  obtain ⟨A, c, e, h1, h2, h3⟩ := h
  refine ⟨A, c, e, h1, h2, fun hp => ?_⟩
  obtain ⟨b, off, rfl, h4⟩ := h3 hp
  refine ⟨b, off, rfl, fun j u hj => ?_⟩
  have hc := h4 j u hj
  exact (World.cell?_of_block (hb.block b (World.block_lt_of_cell? w _ hc) (hv ⟨b, off, none⟩ _ _ e))).trans hc
/-- Three lists of the call's own. -/
structure ThreeL (base : Nat) (w : World) (a b c : Value) (xs ys zs : List Int) : Prop where
  oa : OwnI w base a xs
  ob : OwnI w base b ys
  oc : OwnI w base c zs
  ab : ∀ q, a.ownBlock = some q → b.ownBlock ≠ some q
  ac : ∀ q, a.ownBlock = some q → c.ownBlock ≠ some q
  bc : ∀ q, b.ownBlock = some q → c.ownBlock ≠ some q
namespace ThreeL
variable {base : Nat} {w w1 : World} {a b c : Value} {xs ys zs : List Int}
theorem start (w : World) : ThreeL w.heap.size w (.slice none 0 0) (.slice none 0 0) (.slice none 0 0) [] [] [] :=
  ⟨OwnI_nil _ _, OwnI_nil _ _, OwnI_nil _ _, fun q hq => by simp [Value.ownBlock] at hq, fun q hq => by simp [Value.ownBlock] at hq, fun q hq => by simp [Value.ownBlock] at hq⟩
theorem kept (h : ThreeL base w a b c xs ys zs) (hb : Below w.heap.size w w1) : ThreeL base w1 a b c xs ys zs :=
  ⟨h.oa.below hb, h.ob.below hb, h.oc.below hb, h.ab, h.ac, h.bc⟩
theorem other {d : Value} {ds : List Int} {row : Option Nat} (h : OwnI w base d ds) (hgr : w.grownBy w1 row) (hn : ∀ q, row = some q → d.ownBlock ≠ some q) : OwnI w1 base d ds := by
  refine World.ownsRow.kept h hgr ?_
  cases e : d.ownBlock with
  | none => exact .inl rfl
  | some q => exact .inr (fun e2 => hn q e2.symm e)
theorem fresh {d : Value} {ds : List Int} {gg : Nat} {row : Option Nat} (h : OwnI w base d ds) (hn : ∀ q, row = some q → d.ownBlock ≠ some q) (hat : row = some gg ∨ gg = w.heap.size) : d.ownBlock ≠ some gg := fun e => by
  rcases hat with h1 | h1
  · exact hn gg h1 e
  · have := (World.ownsRow.lt h gg e).2; omega
theorem appA (h : ThreeL base w a b c xs ys zs) {gg cap k : Nat} {x : Int} (hl : xs.length = k) (hown : w1.ownsRow base 3 1 (.slice (some ⟨gg, 0, none⟩) (k + 1) cap) (k + 1) (ints xs ++ [.int .i64 x])) (hgr : w.grownBy w1 a.ownBlock) (hat : a.ownBlock = some gg ∨ gg = w.heap.size) :
    ThreeL base w1 (.slice (some ⟨gg, 0, none⟩) (k + 1) cap) b c (xs ++ [x]) ys zs :=
  ⟨own_snoc hl hown, other h.ob hgr h.ab, other h.oc hgr h.ac, fun q hq e => fresh h.ob h.ab hat (by rwa [show gg = q by simpa [Value.ownBlock] using hq]), fun q hq e => fresh h.oc h.ac hat (by rwa [show gg = q by simpa [Value.ownBlock] using hq]), h.bc⟩
theorem appB (h : ThreeL base w a b c xs ys zs) {gg cap k : Nat} {x : Int} (hl : ys.length = k) (hown : w1.ownsRow base 3 1 (.slice (some ⟨gg, 0, none⟩) (k + 1) cap) (k + 1) (ints ys ++ [.int .i64 x])) (hgr : w.grownBy w1 b.ownBlock) (hat : b.ownBlock = some gg ∨ gg = w.heap.size) :
    ThreeL base w1 a (.slice (some ⟨gg, 0, none⟩) (k + 1) cap) c xs (ys ++ [x]) zs :=
  ⟨other h.oa hgr (fun q hq e => h.ab q e hq), own_snoc hl hown, other h.oc hgr h.bc, fun q hq e => fresh h.oa (fun q hq e => h.ab q e hq) hat (by rw [hq]; simpa [Value.ownBlock] using e.symm), h.ac, fun q hq e => fresh h.oc h.bc hat (by rwa [show gg = q by simpa [Value.ownBlock] using hq])⟩
theorem appC (h : ThreeL base w a b c xs ys zs) {gg cap k : Nat} {x : Int} (hl : zs.length = k) (hown : w1.ownsRow base 3 1 (.slice (some ⟨gg, 0, none⟩) (k + 1) cap) (k + 1) (ints zs ++ [.int .i64 x])) (hgr : w.grownBy w1 c.ownBlock) (hat : c.ownBlock = some gg ∨ gg = w.heap.size) :
    ThreeL base w1 a b (.slice (some ⟨gg, 0, none⟩) (k + 1) cap) xs ys (zs ++ [x]) :=
  ⟨other h.oa hgr (fun q hq e => h.ac q e hq), other h.ob hgr (fun q hq e => h.bc q e hq), own_snoc hl hown, h.ab, fun q hq e => fresh h.oa (fun q hq e => h.ac q e hq) hat (by rw [hq]; simpa [Value.ownBlock] using e.symm), fun q hq e => fresh h.ob (fun q hq e => h.bc q e hq) hat (by rw [hq]; simpa [Value.ownBlock] using e.symm)⟩
theorem low (_h : ThreeL base w a b c xs ys zs) {d : Value} {ds : List Int} (hd : OwnI w base d ds) (hgr : w.grownBy w1 d.ownBlock) {w0 : World} (hb : Below base w0 w) (h0 : base ≤ w.heap.size) : Below base w0 w1 :=
  hb.grown hgr h0 (fun q hq => (World.ownsRow.lt hd q hq).1)
end ThreeL
/-- The first k terms of two sequences put together. -/
def joK (h : Nat) (a b : List Int) (k : Nat) : List Int := (List.range k).map (joinT h a b)
theorem joK_len (h : Nat) (a b : List Int) (k : Nat) : (joK h a b k).length = k := by simp [joK]
theorem joK_snoc (h : Nat) (a b : List Int) (k : Nat) : joK h a b k ++ [joinT h a b k] = joK h a b (k + 1) := by
  unfold joK; rw [List.range_succ, List.map_append]; rfl
end Go.Proofs.YtfljkcmijnhgkaaDoor
