/- Mul: its contract. Norm, Inv, Pow: their contracts. Rules: companion, from: their contracts. from: its contract. Right, Term: their contracts. Term, Matrix: their contracts. From: its contract. -/
import Derived.Test.YtfljkcmijnhgkaaDoorKc
import Derived.Test.YtfljkcmijnhgkaaDoorKd
import Derived.Test.YtfljkcmijnhgkaaDoorKb
import Derived.Test.YtfljkcmijnhgkaaDoorKf
import Derived.Laws.Rows
namespace Go.Proofs.YtfljkcmijnhgkaaDoor
open Go.RowKit Go.Shelf
set_option maxHeartbeats 800000 in
theorem Mul_any (a b : List (List Int)) (va vb : Value) (w : World) (ha : RdM w va a) (hb : RdM w vb b) :
    Calls Tryd.prog 63 #[va, vb] w (MatErr (mulR a b) w) := by
  have hca := Lib.hid (fun W (hW : Below w.heap.size w W) => Check_any a va W (ha.below hW (Nat.le_refl _)))
  have hcb := Lib.hid (fun W (hW : Below w.heap.size w W) => Check_any b vb W (hb.below hW (Nat.le_refl _)))
  obtain ⟨A, c, e, l1, l2, l3⟩ := ha.open_
  obtain ⟨A', c', e', m1, m2, -⟩ := hb.open_
  have hbx : Below w.heap.size w (w.alloc (.cells #[va, vb] 22)) := (Below.refl _ _).alloc (Nat.le_refl _) _
  have hx0 : (w.alloc (.cells #[va, vb] 22)).cell? ⟨w.heap.size, 0, none⟩ = some va := by simp only [World.cell?, heap_alloc_new]; rfl
  have hx1 : (w.alloc (.cells #[va, vb] 22)).cell? ⟨w.heap.size, 1, none⟩ = some vb := by simp only [World.cell?, heap_alloc_new]; rfl
  have hxs : (w.alloc (.cells #[va, vb] 22)).heap.size = w.heap.size + 1 := by simp
  by_cases h0 : checkM a = 0
  · by_cases h1 : checkM b = 0
    · obtain ⟨hok, p1, p2, p3, p4⟩ := checkM_ok h0
      obtain ⟨hokb, q1, q2, q3, q4⟩ := checkM_ok h1
      obtain ⟨b0, off, u, e2, hcell, hu⟩ := l3 0 (by omega)
      obtain ⟨A1, c1, rfl, f1, f2⟩ := hu.cell_
      change _ = some (Value.slice A1 (len0 a) c1) at hcell
      rw [Nat.add_zero] at hcell
      have hlt : b0 < w.heap.size := World.block_lt_of_cell? w _ hcell
      subst e2
      have hpr := Lib.hid (fun (h : len0 a = b.length) W (hW : Below w.heap.size w W) => product_any a b a.length b.length (len0 b) va vb W (h ▸ hok) hokb (by omega) (by omega) (by omega) (by omega) (ha.below hW (Nat.le_refl _)) (hb.below hW (Nat.le_refl _)))
      have hmul : Hid (mulR a b = if len0 a ≠ b.length then (7, []) else (0, prodM a b)) := Lib.hid (by rw [mulR, if_neg (by simpa using h0), if_neg (by simpa using h1)])
      rw [h0] at hca
      rw [h1] at hcb
      subst e e'
      clear l3 hu ha hb hok hokb f1 f2 h0 h1
      generalize a.length = n at *
      generalize b.length = l at *
      generalize len0 a = m at *
      have n1 : (0 : Int) < (n : Int) := by omega
      go_enter Tryd.func63, Tryd.ntmps63
      go_wp2
      generalize w.alloc (.cells #[.slice (some ⟨b0, off, none⟩) n c, .slice A' l c'] 22) = X at hbx hx0 hx1 hxs ⊢
      refine wp_loop_rounds 3 ?_
      rw [rounds_succ]
      go_wp2_with fail
      refine (hca.out X hbx).mono ?_; rintro e W1 ⟨rfl, hB1⟩
      have hx1' := (hB1.cell (p := ⟨w.heap.size, 1, none⟩) (by rw [hxs]; exact Nat.lt_succ_self _)).trans hx1
      have hB1' := Below.then_ hbx hB1
      go_wp2
      rw [rounds_succ]
      go_wp2_with fail
      refine (hcb.out W1 hB1').mono ?_; rintro e W2 ⟨rfl, hB2⟩
      have hB2' := Below.then_ hB1' hB2
      have hcell2 := (hB2'.cell (p := ⟨b0, off, none⟩) hlt).trans hcell
      go_wp2
      rw [rounds_succ]
      by_cases hml : m = l
      · have hr : Hid (mulR a b = (0, prodM a b)) := Lib.hid (by rw [hmul.out, if_neg (by simpa using hml)])
        subst hml
        go_wp2_with fail
        refine (hpr.out (by trivial) W2 hB2').mono ?_; rintro e W3 ⟨⟨v, rfl, hO⟩, hB3⟩
        replace hO := Lib.hid hO
        go_wp2
        go_ret2
        rw [hr.out]
        exact ⟨_, rfl, hO.out.base hB2'.size, Below.then_ hB2' hB3⟩
      · have hr : Hid (mulR a b = (7, [])) := Lib.hid (by rw [hmul.out, if_pos (by simpa using hml)])
        have hne : ((m : Int) != (l : Int)) = true := by rw [bne_iff_ne]; omega
        go_wp2
        go_ret2
        rw [hr.out]
        exact ⟨_, rfl, OwnM_nil _ _, hB2'⟩
    · have hr : Hid (mulR a b = (checkM b, [])) := Lib.hid (by rw [mulR, if_neg (by simpa using h0), if_pos h1])
      have hne : (checkM b != 0) = true := by rw [bne_iff_ne]; exact h1
      rw [h0] at hca
      subst e e'
      clear l3 ha hb h0 h1
      generalize checkM b = x at *
      go_enter Tryd.func63, Tryd.ntmps63
      go_wp2
      generalize w.alloc (.cells #[.slice A a.length c, .slice A' b.length c'] 22) = X at hbx hx0 hx1 hxs ⊢
      refine wp_loop_rounds 2 ?_
      rw [rounds_succ]
      go_wp2_with fail
      refine (hca.out X hbx).mono ?_; rintro e W1 ⟨rfl, hB1⟩
      have hx1' := (hB1.cell (p := ⟨w.heap.size, 1, none⟩) (by rw [hxs]; exact Nat.lt_succ_self _)).trans hx1
      have hB1' := Below.then_ hbx hB1
      go_wp2
      rw [rounds_succ]
      go_wp2_with fail
      refine (hcb.out W1 hB1').mono ?_; rintro e W2 ⟨rfl, hB2⟩
      have hB2' := Below.then_ hB1' hB2
      go_wp2
      go_ret2
      rw [hr.out]
      exact ⟨_, rfl, OwnM_nil _ _, hB2'⟩
  · have hr : Hid (mulR a b = (checkM a, [])) := Lib.hid (by rw [mulR, if_pos h0])
    have hne : (checkM a != 0) = true := by rw [bne_iff_ne]; exact h0
    subst e e'
    clear l3 ha hb h0
    generalize checkM a = x at *
    go_enter Tryd.func63, Tryd.ntmps63
    go_wp2
    generalize w.alloc (.cells #[.slice A a.length c, .slice A' b.length c'] 22) = X at hbx hx0 hx1 hxs ⊢
    refine wp_loop_rounds 1 ?_
    rw [rounds_succ]
    go_wp2_with fail
    refine (hca.out X hbx).mono ?_; rintro e W1 ⟨rfl, hB1⟩
    have hB1' := Below.then_ hbx hB1
    go_wp2
    go_ret2
    rw [hr.out]
    exact ⟨_, rfl, OwnM_nil _ _, hB1'⟩
end Go.Proofs.YtfljkcmijnhgkaaDoor

namespace Go.Proofs.YtfljkcmijnhgkaaDoor
open Go.RowKit Go.Shelf
theorem Norm_any (n : Int) (w : World) (h1 : -9223372036854775808 ≤ n) (h2 : n ≤ 9223372036854775807) :
    Calls Tryd.prog 72 #[.int .i64 n] w fun r w' => r = .returned (.int .i64 (n % 65521)) ∧ w = w' := by
  have ht : n.tmod 65521 = n % 65521 ∨ n.tmod 65521 + 65521 = n % 65521 ∧ n.tmod 65521 < 0 := by
    have h3 := Int.tmod_add_mul_tdiv n 65521
    rcases Int.lt_or_le n 0 with hn | hn
    · have h4 : n.tmod 65521 ≤ 0 := by
        have := Int.tmod_nonneg 65521 (show 0 ≤ -n by omega)
        rw [Int.neg_tmod] at this; omega
      have h5 : -65521 < n.tmod 65521 := by
        have := Int.tmod_lt_of_pos (-n) (show (0 : Int) < 65521 by decide)
        rw [Int.neg_tmod] at this; omega
      omega
    · exact .inl (Int.tmod_eq_emod_of_nonneg hn)
  have hb : 0 ≤ n % 65521 ∧ n % 65521 < 65521 := by omega
  generalize hT : n.tmod 65521 = t at *
  generalize n % 65521 = r at *
  rcases ht with rfl | ⟨ht, hn⟩
  · go_enter Tryd.func72, Tryd.ntmps72
    have hn : ¬ t < 0 := by omega
    go_wp2
    go_ret
    exact ⟨rfl, rfl⟩
  · have e2 : IntKind.i64.wrap (t + 65521) = t + 65521 := IntWalk.i64_in _ ⟨by omega, by omega⟩
    go_enter Tryd.func72, Tryd.ntmps72
    go_wp2
    go_ret
    exact ⟨by rw [← ht]; rfl, rfl⟩
theorem RdI_one (w : World) (x : Int) : RdI (w.alloc (.cells #[.int .i64 x] 3)) (.slice (some ⟨w.heap.size, 0, none⟩) 1 1) [x] := by
  refine ⟨_, _, rfl, Nat.le_refl _, by simp [ints], fun _ => ⟨_, _, rfl, fun j u h => ?_⟩⟩
  cases j with
  | zero =>
    simp only [ints, List.map_cons, List.getElem?_cons_zero, Option.some.injEq] at h
    subst h
    simp only [World.cell?, heap_alloc_new]; rfl
  | succ j => simp [ints] at h
def invR (n : Int) : Int × Int := if isN n = false then (0, 3) else if n = 0 then (0, 7) else (invN n, 0)
def powNR (n e : Int) : Int × Int := if isN n = false ∨ e < 0 then (0, 3) else (n ^ e.toNat % 65521, 0)
theorem isN_iff {n : Int} : isN n = true ↔ 0 ≤ n ∧ n < 65521 := by simp [isN]
theorem Inv_any (n : Int) (w : World) :
    Calls Tryd.prog 70 #[.int .i64 n] w fun e w' => e = .returned (.tuple #[.int .i64 (invR n).1, .int .i64 (invR n).2]) ∧ Below w.heap.size w w' := by
  have hbx : Below w.heap.size w (w.alloc (.cells #[.int .i64 n] 3)) := (Below.refl _ _).alloc (Nat.le_refl _) _
  have hi := Lib.hid (is_any [n] _ _ (RdI_one w n))
  have hl : isRes [n] = isN n := by simp [isRes]
  rw [hl] at hi
  cases hn : isN n
  · rw [hn] at hi
    have hr : Hid (invR n = (0, 3)) := Lib.hid (by rw [invR, if_pos hn])
    go_enter Tryd.func70, Tryd.ntmps70
    go_wp2_with fail
    generalize w.alloc (.cells #[.int .i64 n] 3) = X at *
    refine hi.out.mono ?_; rintro e W ⟨rfl, hB⟩
    go_wp2
    go_ret2
    exact ⟨by rw [hr.out]; rfl, Below.then_ hbx hB⟩
  · rw [hn] at hi
    by_cases h0 : n = 0
    · have hr : Hid (invR n = (0, 7)) := Lib.hid (by rw [invR, if_neg (by simp [hn]), if_pos h0])
      subst h0
      clear hn hl
      go_enter Tryd.func70, Tryd.ntmps70
      go_wp2_with fail
      generalize w.alloc (.cells #[.int .i64 0] 3) = X at *
      refine hi.out.mono ?_; rintro e W ⟨rfl, hB⟩
      go_wp2
      go_ret2
      exact ⟨by rw [hr.out]; rfl, Below.then_ hbx hB⟩
    · have hr : Hid (invR n = (invN n, 0)) := Lib.hid (by rw [invR, if_neg (by simp [hn]), if_neg h0])
      have hq := isN_iff.1 hn
      have hc := Lib.hid (fun W => inverse_any n W hq.1 hq.2)
      have hne : (n == 0) = false := by rw [beq_eq_false_iff_ne]; exact h0
      clear hn hl
      go_enter Tryd.func70, Tryd.ntmps70
      go_wp2_with fail
      generalize w.alloc (.cells #[.int .i64 n] 3) = X at *
      refine hi.out.mono ?_; rintro e W ⟨rfl, hB⟩
      go_wp2_with fail
      refine (hc.out W).mono ?_; rintro e W2 ⟨rfl, rfl⟩
      go_wp2
      go_ret2
      exact ⟨by rw [hr.out]; rfl, Below.then_ hbx hB⟩
theorem Pow_any (n e : Int) (w : World) (he : e ≤ 9223372036854775807) :
    Calls Tryd.prog 71 #[.int .i64 n, .int .i64 e] w fun r w' => r = .returned (.tuple #[.int .i64 (powNR n e).1, .int .i64 (powNR n e).2]) ∧ Below w.heap.size w w' := by
  have hbx : Below w.heap.size w (w.alloc (.cells #[.int .i64 n] 3)) := (Below.refl _ _).alloc (Nat.le_refl _) _
  have hi := Lib.hid (is_any [n] _ _ (RdI_one w n))
  have hl : isRes [n] = isN n := by simp [isRes]
  rw [hl] at hi
  cases hn : isN n
  · rw [hn] at hi
    have hr : Hid (powNR n e = (0, 3)) := Lib.hid (by rw [powNR, if_pos (.inl hn)])
    go_enter Tryd.func71, Tryd.ntmps71
    go_wp2_with fail
    generalize w.alloc (.cells #[.int .i64 n] 3) = X at *
    refine hi.out.mono ?_; rintro e W ⟨rfl, hB⟩
    go_wp2
    go_ret2
    exact ⟨by rw [hr.out]; rfl, Below.then_ hbx hB⟩
  · rw [hn] at hi
    by_cases h0 : e < 0
    · have hr : Hid (powNR n e = (0, 3)) := Lib.hid (by rw [powNR, if_pos (.inr h0)])
      clear hn hl
      go_enter Tryd.func71, Tryd.ntmps71
      go_wp2_with fail
      generalize w.alloc (.cells #[.int .i64 n] 3) = X at *
      refine hi.out.mono ?_; rintro e W ⟨rfl, hB⟩
      go_wp2
      go_ret2
      exact ⟨by rw [hr.out]; rfl, Below.then_ hbx hB⟩
    · have hr : Hid (powNR n e = (n ^ e.toNat % 65521, 0)) := Lib.hid (by rw [powNR, if_neg (by simp [hn]; omega)])
      have hq := isN_iff.1 hn
      have hc := Lib.hid (fun W => power_any n e W hq.1 hq.2 (by omega) he)
      clear hn hl
      generalize n ^ e.toNat % 65521 = R at *
      go_enter Tryd.func71, Tryd.ntmps71
      go_wp2_with fail
      generalize w.alloc (.cells #[.int .i64 n] 3) = X at *
      refine hi.out.mono ?_; rintro e W ⟨rfl, hB⟩
      go_wp2_with fail
      refine (hc.out W).mono ?_; rintro e W2 ⟨rfl, rfl⟩
      go_wp2
      go_ret2
      exact ⟨by rw [hr.out]; rfl, Below.then_ hbx hB⟩
end Go.Proofs.YtfljkcmijnhgkaaDoor

namespace Go.Proofs.YtfljkcmijnhgkaaDoor
open Go.RowKit Go.Shelf
/-- A rule: By and Start. -/
structure Rule where
  by_ : List Int
  start : List Int
/-- THE VALUE v READS AS THE RULE r. -/
def RdR (w : World) (v : Value) (r : Rule) : Prop := ∃ a b, v = .agg #[a, b] ∧ RdI w a r.by_ ∧ RdI w b r.start
def compE (bs : List Int) (i k : Nat) : Int := if i = 0 then bs.getD k 0 else if k + 1 = i then 1 else 0
def compM (bs : List Int) : List (List Int) := mat (compE bs) bs.length bs.length
theorem RdR.below {B : Nat} {w w' : World} {v : Value} {r : Rule} (h : RdR w v r) (hB : Below B w w') (hl : w.heap.size ≤ B) : RdR w' v r := by
  obtain ⟨a, b, rfl, h1, h2⟩ := h
  exact ⟨a, b, rfl, h1.below hB hl, h2.below hB hl⟩
theorem companion_1 (bs : List Int) (g : Nat) (a b : Value) (i k : Nat) (w : World) (hl : bs.length ≤ 1000) (hi : i < bs.length) (hk : k < bs.length)
    (ra : RdI w a bs) (hg : w.heap[g]? = some (.cells #[a, b] 49 (0, 0))) :
    Calls Tryd.prog 151 (#[.int .i64 i, .int .i64 k] ++ #[.pointer (some ⟨g, 0, none⟩)]) w fun e w' => e = .returned (.int .i64 (compE bs i k)) ∧ w = w' := by
  obtain ⟨A, c, rfl, h1, h2, h3⟩ := ra.open_
  obtain ⟨b0, off, rfl, hc⟩ := h3 k hk
  have hc0 : w.cell? ⟨g, 0, none⟩ = some (.slice (some ⟨b0, off, none⟩) bs.length c) := by simp [World.cell?, hg]
  clear h3 ra hg
  have hE : Hid (compE bs i k = if i = 0 then bs.getD k 0 else if k + 1 = i then 1 else 0) := Lib.hid rfl
  generalize bs.getD k 0 = x at *
  generalize bs.length = n at *
  have k1 : (k : Int) < (n : Int) := by omega
  have k0 : (0 : Int) ≤ (k : Int) := by omega
  by_cases h0 : i = 0
  · subst h0
    have hr : Hid (compE bs 0 k = x) := Lib.hid (by rw [hE.out, if_pos rfl])
    go_enter Tryd.func151, Tryd.ntmps151
    go_wp2
    go_ret
    exact ⟨by rw [hr.out]; rfl, rfl⟩
  · have hne : ((i : Int) == 0) = false := by rw [beq_eq_false_iff_ne]; omega
    by_cases h4 : k + 1 = i
    · subst h4
      have hr : Hid (compE bs (k + 1) k = 1) := Lib.hid (by rw [hE.out, if_neg (by omega), if_pos rfl])
      go_enter Tryd.func151, Tryd.ntmps151
      go_wp2
      go_ret
      exact ⟨by rw [hr.out]; rfl, rfl⟩
    · have hr : Hid (compE bs i k = 0) := Lib.hid (by rw [hE.out, if_neg h0, if_neg h4])
      have hw : IntKind.i64.wrap ((i : Int) - 1) = (i : Int) - 1 := IntWalk.i64_in _ ⟨by omega, by omega⟩
      have hne2 : ((k : Int) == (i : Int) - 1) = false := by rw [beq_eq_false_iff_ne]; omega
      go_enter Tryd.func151, Tryd.ntmps151
      go_wp2
      go_ret
      exact ⟨by rw [hr.out]; rfl, rfl⟩
theorem compE_bd {bs : List Int} (hb : ∀ x ∈ bs, 0 ≤ x ∧ x < 65521) (i k : Nat) : 0 ≤ compE bs i k ∧ compE bs i k < 65521 := by
  unfold compE
  split
  · by_cases h : k < bs.length
    · rw [List.getD_eq_getElem?_getD, List.getElem?_eq_getElem h]; exact hb _ (List.getElem_mem h)
    · rw [List.getD_eq_getElem?_getD, List.getElem?_eq_none (by omega)]; decide
  · split <;> decide
theorem okM_comp {bs : List Int} (hb : ∀ x ∈ bs, 0 ≤ x ∧ x < 65521) : okM (compM bs) bs.length bs.length := okM_mat _ _ _ (fun i k _ _ => compE_bd hb i k)
theorem companion_any (r : Rule) (v : Value) (w : World) (hl : r.by_.length ≤ 1000) (h : RdR w v r) :
    Calls Tryd.prog 134 #[v] w fun e w' => (∃ v, e = .returned v ∧ OwnM w' w.heap.size v (compM r.by_)) ∧ Below w.heap.size w w' := by
  obtain ⟨a, b, rfl, ra, -⟩ := h
  obtain ⟨bs, st⟩ := r
  change RdI w a bs at ra
  change bs.length ≤ 1000 at hl
  have hbx : Below w.heap.size w (w.alloc (.cells #[a, b] 49)) := (Below.refl _ _).alloc (Nat.le_refl _) _
  have hg : (w.alloc (.cells #[a, b] 49)).heap[w.heap.size]? = some (.cells #[a, b] 49 (0, 0)) := heap_alloc_new _ _
  have hsz : (w.alloc (.cells #[a, b] 49)).heap.size = w.heap.size + 1 := by simp
  have hc := Lib.hid (made_any (compE bs) bs.length bs.length 151 #[.pointer (some ⟨w.heap.size, 0, none⟩)] (enters_of Tryd.func151 (by kernel_rfl) rfl) (w.alloc (.cells #[a, b] 49)) (by omega) (by omega) (fun W i k hW hi hk =>
    companion_1 bs w.heap.size a b i k W hl hi hk ((ra.below hbx (Nat.le_refl _)).below hW (Nat.le_refl _)) ((hW.block _ (by rw [hsz]; exact Nat.lt_succ_self _)).trans hg)))
  obtain ⟨A, c, rfl, h1, h2, -⟩ := ra.open_
  have hc0 : (w.alloc (.cells #[.slice A bs.length c, b] 49)).cell? ⟨w.heap.size, 0, none⟩ = some (.slice A bs.length c) := by unfold World.cell?; rw [hg]; rfl
  have hM : Hid (compM bs = mat (compE bs) bs.length bs.length) := Lib.hid rfl
  clear ra
  clear hg hsz
  generalize bs.length = n at *
  go_enter Tryd.func134, Tryd.ntmps134
  go_wp2_with (go_at_call 141; refine hc.out.mono ?_; rintro e w' ⟨⟨v, rfl, ho⟩, hb'⟩)
  go_ret
  exact ⟨⟨_, rfl, by rw [hM.out]; exact ho.base hbx.size⟩, Below.then_ hbx hb'⟩
end Go.Proofs.YtfljkcmijnhgkaaDoor

namespace Go.Proofs.YtfljkcmijnhgkaaDoor
open Go.RowKit Go.Shelf
def colE (st : List Int) (i : Nat) : Int := st.getD (st.length - 1 - i) 0
def colM (st : List Int) : List (List Int) := mat (fun i _ => colE st i) st.length 1
/-- As many terms as the order is, from one on. -/
def fromM (r : Rule) (n : Nat) : List Int := if r.by_.length = 0 then [] else ((prodM (powMat (compM r.by_) n) (colM r.start)).map fun u => u.getD 0 0).reverse
theorem from_1 (st : List Int) (g : Nat) (a b : Value) (i k : Nat) (w : World) (hl : st.length ≤ 1000) (hi : i < st.length)
    (rb : RdI w b st) (hg : w.heap[g]? = some (.cells #[a, b] 49 (0, 0))) :
    Calls Tryd.prog 149 (#[.int .i64 i, .int .i64 k] ++ #[.pointer (some ⟨g, 0, none⟩)]) w fun e w' => e = .returned (.int .i64 (colE st i)) ∧ w = w' := by
  obtain ⟨A, c, rfl, h1, h2, h3⟩ := rb.open_
  obtain ⟨b0, off, rfl, hc⟩ := h3 (st.length - 1 - i) (by omega)
  have hc0 : w.cell? ⟨g, 1, none⟩ = some (.slice (some ⟨b0, off, none⟩) st.length c) := by simp [World.cell?, hg]
  clear h3 rb hg
  have hE : Hid (colE st i = st.getD (st.length - 1 - i) 0) := Lib.hid rfl
  generalize st.getD (st.length - 1 - i) 0 = x at *
  generalize hq : st.length - 1 - i = q at *
  generalize st.length = n at *
  have hw : IntKind.i64.wrap ((n : Int) - 1) = (n : Int) - 1 := IntWalk.i64_in _ ⟨by omega, by omega⟩
  have hw2 : IntKind.i64.wrap ((n : Int) - 1 - i) = (q : Int) := by rw [show (n : Int) - 1 - i = q from by omega]; exact IntWalk.i64_in _ ⟨by omega, by omega⟩
  have k1 : (q : Int) < (n : Int) := by omega
  have k0 : (0 : Int) ≤ (q : Int) := by omega
  go_enter Tryd.func149, Tryd.ntmps149
  go_wp2
  go_ret
  exact ⟨by rw [hE.out]; rfl, rfl⟩
def outP (M : List (List Int)) (k : Nat) : List Int := (M.take k).map fun u => u.getD 0 0
theorem outP_len (M : List (List Int)) {k : Nat} (h : k ≤ M.length) : (outP M k).length = k := by simp [outP]; omega
theorem outP_succ (M : List (List Int)) {k : Nat} (h : k < M.length) : outP M (k + 1) = outP M k ++ [gM M k 0] := by
  unfold outP gM
  rw [List.take_add_one, List.map_append, List.getD_eq_getElem?_getD (l := M), List.getElem?_eq_getElem h]
  rfl
theorem okM_col {st : List Int} (hb : ∀ x ∈ st, 0 ≤ x ∧ x < 65521) : okM (colM st) st.length 1 := okM_mat _ _ _ (fun i k _ _ => by
  unfold colE
  by_cases h : st.length - 1 - i < st.length
  · rw [List.getD_eq_getElem?_getD, List.getElem?_eq_getElem h]; exact hb _ (List.getElem_mem h)
  · rw [List.getD_eq_getElem?_getD, List.getElem?_eq_none (by omega)]; decide)
theorem okM_powF {m : Nat} (hm : 0 < m) : ∀ (f n : Nat) (o a : List (List Int)), okM o m m → okM a m m → okM (powF f o a n) m m
  | 0, _, _, _, h, _ => h
  | f + 1, n, o, a, h, ha => by
    unfold powF
    split
    · exact h
    · exact okM_powF hm f (n / 2) (if n % 2 = 1 then prodM o a else o) (prodM a a) (if h2 : n % 2 = 1 then by rw [if_pos h2]; exact okM_prod h ha hm else by rw [if_neg h2]; exact h) (okM_prod ha ha hm)
theorem okM_powMat {a : List (List Int)} {m : Nat} (hm : 0 < m) (ha : okM a m m) (n : Nat) : okM (powMat a n) m m := okM_powF hm _ _ _ _ (by rw [ha.1]; exact okM_id m) ha
set_option maxHeartbeats 1600000 in
theorem from_any (r : Rule) (n : Nat) (v : Value) (w : World) (hl : r.by_.length ≤ 1000) (hs : r.start.length = r.by_.length) (hb : ∀ x ∈ r.by_, 0 ≤ x ∧ x < 65521) (hb2 : ∀ x ∈ r.start, 0 ≤ x ∧ x < 65521) (hn : n ≤ 9223372036854775807) (h : RdR w v r) :
    Calls Tryd.prog 127 #[v, .int .i64 n] w fun e w' => (∃ v, e = .returned v ∧ OwnI w' w.heap.size v (fromM r n)) ∧ Below w.heap.size w w' := by
  obtain ⟨i0, hi0, hz0, hz1, hz2⟩ := info_parts infoI
  have hr := h
  obtain ⟨a, b, rfl, ra, rb⟩ := h
  have hbx : Below w.heap.size w (w.alloc (.cells #[a, b] 49)) := (Below.refl _ _).alloc (Nat.le_refl _) _
  have hg : (w.alloc (.cells #[a, b] 49)).heap[w.heap.size]? = some (.cells #[a, b] 49 (0, 0)) := heap_alloc_new _ _
  have hsz : (w.alloc (.cells #[a, b] 49)).heap.size = w.heap.size + 1 := by simp
  have hcl := Lib.hid (made_any (fun i _ => colE r.start i) r.start.length 1 149 #[.pointer (some ⟨w.heap.size, 0, none⟩)] (enters_of Tryd.func149 (by kernel_rfl) rfl) (w.alloc (.cells #[a, b] 49)) (by omega) (by omega) (fun W i k hW hi hk =>
    from_1 r.start w.heap.size a b i k W (by omega) hi ((rb.below hbx (Nat.le_refl _)).below hW (Nat.le_refl _)) ((hW.block _ (by rw [hsz]; exact Nat.lt_succ_self _)).trans hg)))
  have hcp := Lib.hid (fun W (hW : Below w.heap.size w W) => companion_any r _ W hl (hr.below hW (Nat.le_refl _)))
  obtain ⟨A, c, rfl, h1, h2, -⟩ := ra.open_
  have hc0 : (w.alloc (.cells #[.slice A r.by_.length c, b] 49)).cell? ⟨w.heap.size, 0, none⟩ = some (.slice A r.by_.length c) := by unfold World.cell?; rw [hg]; rfl
  have hc1 : (w.alloc (.cells #[.slice A r.by_.length c, b] 49)).cell? ⟨w.heap.size, 1, none⟩ = some b := by unfold World.cell?; rw [hg]; rfl
  have hokc := Lib.hid (okM_comp hb)
  have hokl := Lib.hid (okM_col hb2)
  have hcm : Hid (colM r.start = mat (fun i _ => colE r.start i) r.start.length 1) := Lib.hid rfl
  rw [← hcm.out] at hcl
  have hF : Hid (fromM r n = if r.by_.length = 0 then [] else ((prodM (powMat (compM r.by_) n) (colM r.start)).map fun u => u.getD 0 0).reverse) := Lib.hid rfl
  obtain ⟨B, c', rfl, g1, g2, -⟩ := rb.open_
  rw [hs] at *
  replace hr := Lib.hid hr
  clear ra rb hg hb hb2 hcm
  generalize r.by_.length = d at *
  by_cases h0 : d = 0
  · have hres : Hid (fromM r n = []) := Lib.hid (by rw [hF.out, if_pos h0])
    subst h0
    go_enter Tryd.func127, Tryd.ntmps127
    go_wp2
    go_ret
    exact ⟨⟨_, rfl, by rw [hres.out]; exact OwnI_nil _ _⟩, hbx⟩
  · have hres : Hid (fromM r n = ((prodM (powMat (compM r.by_) n) (colM r.start)).map fun u => u.getD 0 0).reverse) := Lib.hid (by rw [hF.out, if_neg h0])
    have hne : ((d : Int) == 0) = false := by rw [beq_eq_false_iff_ne]; omega
    go_enter Tryd.func127, Tryd.ntmps127
    go_wp2_with fail
    go_at_call 141
    refine hcl.out.mono ?_; rintro e W1 ⟨⟨v1, rfl, hO1⟩, hB1⟩
    have q0 := (hB1.cell (p := ⟨w.heap.size, 0, none⟩) (by rw [hsz]; exact Nat.lt_succ_self _)).trans hc0
    have q1 := (hB1.cell (p := ⟨w.heap.size, 1, none⟩) (by rw [hsz]; exact Nat.lt_succ_self _)).trans hc1
    have hBa := Lib.hid (Below.then_ hbx hB1)
    replace hO1 := Lib.hid (hO1.base hbx.size)
    clear hcl hc0 hc1 hB1 hbx hsz
    go_wp2_with fail
    refine (hcp.out W1 hBa.out).mono ?_; rintro e W2 ⟨⟨v2, rfl, hO2⟩, hB2⟩
    have hBb := Lib.hid (Below.then_ hBa.out hB2)
    have hO1' := Lib.hid (hO1.out.below hB2)
    have hrs := Lib.hid (raised_any (compM r.by_) d v2 n W2 hokc.out hl (by omega) hn (hO2.rdOk hokc.out hl hl))
    clear hO2 hB2 hO1 q0 q1
    go_wp2_with fail
    refine hrs.out.mono ?_; rintro e W3 ⟨⟨v3, rfl, hO3⟩, hB3⟩
    have hBc := Lib.hid (Below.then_ hBb.out hB3)
    have hO4 := hO1'.out.below hB3
    have hokp : Hid (okM (powMat (compM r.by_) n) d d) := Lib.hid (okM_powMat (by omega) hokc.out n)
    have hpr := Lib.hid (product_any (powMat (compM r.by_) n) (colM r.start) d d 1 v3 v1 W3 hokp.out hokl.out hl hl (by omega) (by omega) (hO3.rdOk hokp.out hl hl) (hO4.rdOk hokl.out hl (by omega)))
    have hokm : Hid (okM (prodM (powMat (compM r.by_) n) (colM r.start)) d 1) := Lib.hid (okM_prod hokp.out hokl.out (by omega))
    generalize prodM (powMat (compM r.by_) n) (colM r.start) = M at *
    clear hrs hO1' hO4 hO3 hB3
    go_wp2_with fail
    refine hpr.out.mono ?_; rintro e W4 ⟨⟨v4, rfl, hO5⟩, hB4⟩
    have hBd := Lib.hid (Below.then_ hBc.out hB4)
    obtain ⟨G, C, rfl⟩ : ∃ G C, v4 = .slice G d C := by obtain ⟨vs, h1, _⟩ := hO5; rw [hokm.out.1] at h1; exact own_form h1
    replace hO5 := Lib.hid hO5
    clear hpr hB4
    go_wp2
    go_loopw [6, 26] (fun o i wr => ∃ k : Nat, k ≤ d ∧ i = .int .i64 k ∧ Hid (Below W4.heap.size W4 wr) ∧ ∃ A c, o = .slice A k c ∧ Hid (OwnI wr W4.heap.size (.slice A k c) (outP M k))) (fun _ i _ => d - (intOf i).toNat)
    case atStart => exact ⟨0, Nat.zero_le _, rfl, Lib.hid (Below.refl _ _), none, 0, rfl, Lib.hid (OwnI_nil _ _)⟩
    case round =>
      obtain ⟨k, hk, rfl, hB, A6, c6, rfl, hO⟩ := hrel
      by_cases hlt : k < d
      · have hrow : M[k]? = some (M.getD k []) := by rw [List.getD_eq_getElem?_getD, List.getElem?_eq_getElem (by rw [hokm.out.1]; exact hlt)]; rfl
        obtain ⟨g, c5, u, e, hgb, hgs, hc, hf, hou, hub⟩ := hO5.out.row hrow
        simp only [Value.slice.injEq] at e
        obtain ⟨rfl, -, -⟩ := e
        have hou2 := hou
        unfold OwnI at hou2
        rw [hokm.out.row hlt] at hou2
        obtain ⟨A7, c7, rfl⟩ := own_form hou2
        have hcr := (hB.out.cell (p := ⟨g, k, none⟩) hgs).trans hc
        have hour := hou.below hB.out
        obtain ⟨g7, rfl, hg7⟩ : ∃ g7, A7 = some ⟨g7, 0, none⟩ ∧ wr.cell? ⟨g7, 0, none⟩ = some (.int .i64 (gM M k 0)) := by
          rcases hou2.2 with ⟨e, e2⟩ | ⟨g7, cap, cur, e, _⟩
          · cases e2
          · simp only [Value.slice.injEq] at e
            obtain ⟨rfl, -, rfl⟩ := e
            exact ⟨g7, rfl, (hour.num (k := 0) (by rw [hokm.out.row hlt]; decide)).1⟩
        have hsc : Hid (outP M (k + 1) = outP M k ++ [gM M k 0]) := Lib.hid (outP_succ M (by rw [hokm.out.1]; exact hlt))
        have hpl := outP_len M (k := k) (by rw [hokm.out.1]; omega)
        have hOx := hO.out
        unfold OwnI at hOx
        rw [hpl] at hOx
        generalize gM M k 0 = x at *
        have k1 : (k : Int) < (d : Int) := by omega
        have k0 : (0 : Int) ≤ (k : Int) := by omega
        have hbX : Below wr.heap.size wr (wr.alloc (.cells #[.int .i64 x] 3)) := (Below.refl _ _).alloc (Nat.le_refl _) _
        have hsz4 := hB.out.size
        replace hOx := Lib.hid (own_below hOx hbX)
        clear hour hou hou2 hub hc hf hrow hgb hgs
        go_wp2_with (at_builtin; (refine wpList_append_lies _ rfl _ _ 23 rfl W4.heap.size 3 i0 _ 1 8 Tryd.underlying23 hi0 hz0 hz1 hz2 rfl (by omega) (.slice A6 k c6) k (ints (outP M k)) rfl hOx.out ⟨wr.heap.size, 0, none⟩ 1 1 [.int .i64 x] rfl rfl (World.news_of_block (cs := #[.int .i64 x]) (t := 3) (fr := (0, 0)) (heap_alloc_new wr _)) (by simp [Value.oneCell']) (by omega) (by unfold maxLen; omega) (by omega) (by simp; omega) (wr.heap.size + 1) (by simp) ?_); intro gg cap w3 hown3 hgrow hat hlt3)
        have hfin : Hid (OwnI w3 W4.heap.size (.slice (some ⟨gg, 0, none⟩) (k + 1) cap) (outP M (k + 1))) := Lib.hid (by
          rw [hsc.out]; unfold OwnI; rw [List.length_append, hpl]; simpa [ints] using hown3)
        have hbf : Hid (Below W4.heap.size W4 w3) := Lib.hid ((Below.then_ hB.out hbX).grown hgrow (by simp; omega) (fun j hj => (hOx.out.lt j hj).1))
        clear hown3 hgrow hat hlt3 hbX
        go_wp2
        go_roundw
        case rel => exact ⟨k + 1, by omega, by go_num, hbf, _, _, rfl, hfin⟩
        case measure => simp [intOf]; omega
      · obtain rfl : k = d := by omega
        obtain ⟨A6', hA6⟩ : ∃ g6, A6 = some ⟨g6, 0, none⟩ := by
          have h := hO.out
          unfold OwnI at h
          rcases h.2 with ⟨e, e2⟩ | ⟨g7, cap, cur, e, _⟩
          · have := outP_len M (k := k) (by rw [hokm.out.1]; omega); omega
          · simp only [Value.slice.injEq] at e; exact ⟨g7, e.1⟩
        subst hA6
        go_wp2_with fail
        refine (Reverse_any _ k W4.heap.size A6' c6 wr hO.out (by omega)).mono ?_; rintro e W5 ⟨rfl, hR, hK⟩
        have hRF : Hid (OwnI W5 W4.heap.size (.slice (some ⟨A6', 0, none⟩) k c6) (fromM r n)) := Lib.hid (by
          rw [hres.out]; unfold outP at hR; rwa [List.take_of_length_le (by rw [hokm.out.1]; omega)] at hR)
        have hgb := (hO.out.block).1
        have hBF := Lib.hid (Below.then_ hBd.out (hB.out.trans (hK.below hB.out.size (fun u hu j hj => by
          rw [List.mem_singleton.1 hu] at hj; simp [Value.ownBlock] at hj; omega))))
        clear hR hK
        go_wp2
        go_ret
        exact ⟨⟨_, rfl, hRF.out.base hBd.out.size⟩, hBF.out⟩
end Go.Proofs.YtfljkcmijnhgkaaDoor

namespace Go.Proofs.YtfljkcmijnhgkaaDoor
open Go.RowKit Go.Shelf
def rightR (r : Rule) : Int := if r.by_.length > 12 then 2 else if r.start.length ≠ r.by_.length then 4 else if isRes r.by_ = false ∨ isRes r.start = false then 3 else 0
theorem rightR_ok {r : Rule} (h : rightR r = 0) : r.by_.length ≤ 12 ∧ r.start.length = r.by_.length ∧ (∀ x ∈ r.by_, 0 ≤ x ∧ x < 65521) ∧ ∀ x ∈ r.start, 0 ≤ x ∧ x < 65521 := by
  unfold rightR at h
  split at h
  · cases h
  · rename_i h1
    split at h
    · cases h
    · rename_i h2
      split at h
      · cases h
      · rename_i h3
        exact ⟨by omega, by simpa using h2, isRes_iff.1 (by cases hh : isRes r.by_ <;> simp_all), isRes_iff.1 (by cases hh : isRes r.start <;> simp_all)⟩
theorem rightR_cases (r : Rule) : rightR r = 0 ∨ rightR r = 2 ∨ rightR r = 3 ∨ rightR r = 4 := by
  unfold rightR; split
  · simp
  · split
    · simp
    · split <;> simp
set_option maxHeartbeats 1600000 in
theorem Right_any (r : Rule) (v : Value) (w : World) (h : RdR w v r) :
    Calls Tryd.prog 84 #[v] w fun e w' => e = .returned (.int .i64 (rightR r)) ∧ Below w.heap.size w w' := by
  obtain ⟨a, b, rfl, ra, rb⟩ := h
  have hbx : Below w.heap.size w (w.alloc (.cells #[a, b] 49)) := (Below.refl _ _).alloc (Nat.le_refl _) _
  have hg : (w.alloc (.cells #[a, b] 49)).heap[w.heap.size]? = some (.cells #[a, b] 49 (0, 0)) := heap_alloc_new _ _
  have hsz : (w.alloc (.cells #[a, b] 49)).heap.size = w.heap.size + 1 := by simp
  have hi := Lib.hid (fun W (hW : Below w.heap.size w W) => is_any r.by_ a W (ra.below hW (Nat.le_refl _)))
  have hj := Lib.hid (fun W (hW : Below w.heap.size w W) => is_any r.start b W (rb.below hW (Nat.le_refl _)))
  obtain ⟨A, c, rfl, h1, h2, -⟩ := ra.open_
  obtain ⟨B, d, rfl, g1, g2, -⟩ := rb.open_
  have hc0 : (w.alloc (.cells #[.slice A r.by_.length c, .slice B r.start.length d] 49)).cell? ⟨w.heap.size, 0, none⟩ = some (.slice A r.by_.length c) := by unfold World.cell?; rw [hg]; rfl
  have hc1 : (w.alloc (.cells #[.slice A r.by_.length c, .slice B r.start.length d] 49)).cell? ⟨w.heap.size, 1, none⟩ = some (.slice B r.start.length d) := by unfold World.cell?; rw [hg]; rfl
  have hR : Hid (rightR r = if r.by_.length > 12 then 2 else if r.start.length ≠ r.by_.length then 4 else if isRes r.by_ = false ∨ isRes r.start = false then 3 else 0) := Lib.hid rfl
  clear ra rb hg
  generalize r.by_.length = n at *
  generalize r.start.length = m at *
  by_cases q1 : n > 12
  · have hr : Hid (rightR r = 2) := Lib.hid (by rw [hR.out, if_pos q1])
    have q2 : (12 : Int) < (n : Int) := by omega
    go_enter Tryd.func84, Tryd.ntmps84
    go_wp2
    go_ret
    exact ⟨by rw [hr.out]; rfl, hbx⟩
  · have q2 : ¬ (12 : Int) < (n : Int) := by omega
    by_cases q3 : m = n
    · subst q3
      have hne : ((m : Int) != (m : Int)) = false := by simp
      cases p1 : isRes r.by_
      · have hr : Hid (rightR r = 3) := Lib.hid (by rw [hR.out, if_neg q1, if_neg (by simp), if_pos (.inl p1)])
        rw [p1] at hi
        go_enter Tryd.func84, Tryd.ntmps84
        go_wp2_with fail
        refine (hi.out _ hbx).mono ?_; rintro e W1 ⟨rfl, hB1⟩
        go_wp2
        go_ret
        exact ⟨by rw [hr.out]; rfl, Below.then_ hbx hB1⟩
      · rw [p1] at hi
        cases p2 : isRes r.start
        · have hr : Hid (rightR r = 3) := Lib.hid (by rw [hR.out, if_neg q1, if_neg (by simp), if_pos (.inr p2)])
          rw [p2] at hj
          go_enter Tryd.func84, Tryd.ntmps84
          go_wp2_with fail
          refine (hi.out _ hbx).mono ?_; rintro e W1 ⟨rfl, hB1⟩
          have hc2 := (hB1.cell (p := ⟨w.heap.size, 1, none⟩) (by rw [hsz]; exact Nat.lt_succ_self _)).trans hc1
          have hB2 := Below.then_ hbx hB1
          go_wp2_with fail
          refine (hj.out _ hB2).mono ?_; rintro e W2 ⟨rfl, hB3⟩
          go_wp2
          go_ret
          exact ⟨by rw [hr.out]; rfl, Below.then_ hB2 hB3⟩
        · have hr : Hid (rightR r = 0) := Lib.hid (by rw [hR.out, if_neg q1, if_neg (by simp), if_neg (by simp [p1, p2])])
          rw [p2] at hj
          go_enter Tryd.func84, Tryd.ntmps84
          go_wp2_with fail
          refine (hi.out _ hbx).mono ?_; rintro e W1 ⟨rfl, hB1⟩
          have hc2 := (hB1.cell (p := ⟨w.heap.size, 1, none⟩) (by rw [hsz]; exact Nat.lt_succ_self _)).trans hc1
          have hB2 := Below.then_ hbx hB1
          go_wp2_with fail
          refine (hj.out _ hB2).mono ?_; rintro e W2 ⟨rfl, hB3⟩
          go_wp2
          go_ret
          exact ⟨by rw [hr.out]; rfl, Below.then_ hB2 hB3⟩
    · have hr : Hid (rightR r = 4) := Lib.hid (by rw [hR.out, if_neg q1, if_pos q3])
      have hne : ((m : Int) != (n : Int)) = true := by rw [bne_iff_ne]; omega
      go_enter Tryd.func84, Tryd.ntmps84
      go_wp2
      go_ret
      exact ⟨by rw [hr.out]; rfl, hbx⟩
end Go.Proofs.YtfljkcmijnhgkaaDoor

namespace Go.Proofs.YtfljkcmijnhgkaaDoor
open Go.RowKit Go.Shelf
def termR (r : Rule) (n : Int) : Int × Int := if rightR r ≠ 0 then (0, rightR r) else if n < 0 then (0, 3) else ((fromM r n.toNat).getD 0 0, 0)
def matR (r : Rule) : Int × List (List Int) := if rightR r ≠ 0 then (rightR r, []) else if r.by_.length = 0 then (6, []) else (0, compM r.by_)
set_option maxHeartbeats 1600000 in
theorem Term_any (r : Rule) (n : Int) (v : Value) (w : World) (hn : n ≤ 9223372036854775807) (h : RdR w v r) :
    Calls Tryd.prog 59 #[v, .int .i64 n] w fun e w' => e = .returned (.tuple #[.int .i64 (termR r n).1, .int .i64 (termR r n).2]) ∧ Below w.heap.size w w' := by
  have hR := Lib.hid h
  obtain ⟨a, b, rfl, ra, rb⟩ := h
  have hbx : Below w.heap.size w (w.alloc (.cells #[a, b] 49)) := (Below.refl _ _).alloc (Nat.le_refl _) _
  have hg : (w.alloc (.cells #[a, b] 49)).heap[w.heap.size]? = some (.cells #[a, b] 49 (0, 0)) := heap_alloc_new _ _
  have hsz : (w.alloc (.cells #[a, b] 49)).heap.size = w.heap.size + 1 := by simp
  have hc0 : (w.alloc (.cells #[a, b] 49)).cell? ⟨w.heap.size, 0, none⟩ = some a := by unfold World.cell?; rw [hg]; rfl
  have hc1 : (w.alloc (.cells #[a, b] 49)).cell? ⟨w.heap.size, 1, none⟩ = some b := by unfold World.cell?; rw [hg]; rfl
  have hri := Lib.hid (Right_any r _ _ (hR.out.below hbx (Nat.le_refl _)))
  clear ra rb hg
  by_cases h0 : rightR r = 0
  · obtain ⟨o1, o2, o3, o4⟩ := rightR_ok h0
    rw [h0] at hri
    by_cases h1 : n < 0
    · have hr : Hid (termR r n = (0, 3)) := Lib.hid (by rw [termR, if_neg (by simpa using h0), if_pos h1])
      clear hR h0
      go_enter Tryd.func59, Tryd.ntmps59
      go_wp2_with fail
      generalize w.alloc (.cells #[a, b] 49) = X at *
      refine hri.out.mono ?_; rintro e W1 ⟨rfl, hB1⟩
      go_wp2
      go_ret2
      exact ⟨by rw [hr.out]; rfl, Below.then_ hbx hB1⟩
    · have hr : Hid (termR r n = ((fromM r n.toNat).getD 0 0, 0)) := Lib.hid (by rw [termR, if_neg (by simpa using h0), if_neg h1])
      obtain ⟨k, rfl⟩ := Int.eq_ofNat_of_zero_le (show 0 ≤ n by omega)
      rw [Int.toNat_natCast] at hr
      have hf := Lib.hid (fun W (hW : Below w.heap.size w W) => from_any r k _ W (by omega) o2 o3 o4 (by omega) (hR.out.below hW (Nat.le_refl _)))
      have hfl : (fromM r k).length ≤ 12 := by
        unfold fromM
        split
        · simp
        · rename_i hd
          have := (okM_prod (okM_powMat (by omega) (okM_comp o3) k) (o2 ▸ okM_col o4) (by omega)).1
          simp only [List.length_reverse, List.length_map]; omega
      clear hR h0 o3 o4
      generalize fromM r k = F at *
      go_enter Tryd.func59, Tryd.ntmps59
      go_wp2_with fail
      generalize w.alloc (.cells #[a, b] 49) = X at *
      refine hri.out.mono ?_; rintro e W1 ⟨rfl, hB1⟩
      have hc2 := (hB1.cell (p := ⟨w.heap.size, 0, none⟩) (by rw [hsz]; exact Nat.lt_succ_self _)).trans hc0
      have hc3 := (hB1.cell (p := ⟨w.heap.size, 1, none⟩) (by rw [hsz]; exact Nat.lt_succ_self _)).trans hc1
      have hB2 := Below.then_ hbx hB1
      clear hri
      go_wp2_with fail
      refine (hf.out W1 hB2).mono ?_; rintro e W2 ⟨⟨v, rfl, hO⟩, hB3⟩
      have hB4 := Lib.hid (Below.then_ hB2 hB3)
      have hrd := hO.rd (by omega)
      obtain ⟨A, c, rfl, h1, h2, h3⟩ := hrd.open_
      replace hO := Lib.hid hO
      by_cases h4 : F.length = 0
      · have hF0 : F.getD 0 0 = 0 := by rw [List.length_eq_zero_iff.1 h4]; rfl
        rw [hF0] at hr
        clear h3 hrd hB3
        rw [h4] at *
        go_wp2
        go_ret2
        exact ⟨by rw [hr.out]; rfl, hB4.out⟩
      · obtain ⟨b0, off, rfl, hc⟩ := h3 0 (by omega)
        rw [Nat.add_zero] at hc
        have hp : (0 : Int) < (F.length : Int) := by omega
        clear h3 hrd hB3
        generalize F.getD 0 0 = x at *
        generalize F.length = l at *
        go_wp2
        go_ret2
        exact ⟨by rw [hr.out]; rfl, hB4.out⟩
  · have hr : Hid (termR r n = (0, rightR r)) := Lib.hid (by rw [termR, if_pos h0])
    have hne : (rightR r != 0) = true := by rw [bne_iff_ne]; exact h0
    have hca := Lib.hid (rightR_cases r)
    generalize rightR r = x at *
    clear hR h0
    go_enter Tryd.func59, Tryd.ntmps59
    go_wp2_with fail
    generalize w.alloc (.cells #[a, b] 49) = X at *
    refine hri.out.mono ?_; rintro e W1 ⟨rfl, hB1⟩
    go_wp2
    go_ret2
    exact ⟨by rw [hr.out]; rfl, Below.then_ hbx hB1⟩
set_option maxHeartbeats 1600000 in
theorem Matrix_any (r : Rule) (v : Value) (w : World) (h : RdR w v r) :
    Calls Tryd.prog 75 #[v] w (MatErr (matR r) w) := by
  have hR := Lib.hid h
  obtain ⟨a, b, rfl, ra, rb⟩ := h
  have hbx : Below w.heap.size w (w.alloc (.cells #[a, b] 49)) := (Below.refl _ _).alloc (Nat.le_refl _) _
  have hg : (w.alloc (.cells #[a, b] 49)).heap[w.heap.size]? = some (.cells #[a, b] 49 (0, 0)) := heap_alloc_new _ _
  have hsz : (w.alloc (.cells #[a, b] 49)).heap.size = w.heap.size + 1 := by simp
  have hc0 : (w.alloc (.cells #[a, b] 49)).cell? ⟨w.heap.size, 0, none⟩ = some a := by unfold World.cell?; rw [hg]; rfl
  have hc1 : (w.alloc (.cells #[a, b] 49)).cell? ⟨w.heap.size, 1, none⟩ = some b := by unfold World.cell?; rw [hg]; rfl
  have hri := Lib.hid (Right_any r _ _ (hR.out.below hbx (Nat.le_refl _)))
  obtain ⟨A, c, rfl, l1, l2, -⟩ := ra.open_
  clear rb hg ra
  by_cases h0 : rightR r = 0
  · obtain ⟨o1, o2, o3, o4⟩ := rightR_ok h0
    rw [h0] at hri
    have hf := Lib.hid (fun W (hW : Below w.heap.size w W) => companion_any r _ W (by omega) (hR.out.below hW (Nat.le_refl _)))
    by_cases h1 : r.by_.length = 0
    · have hr : Hid (matR r = (6, [])) := Lib.hid (by rw [matR, if_neg (by simpa using h0), if_pos h1])
      clear hR h0
      generalize r.by_.length = d at *
      subst h1
      go_enter Tryd.func75, Tryd.ntmps75
      go_wp2_with fail
      generalize w.alloc (.cells #[.slice A 0 c, b] 49) = X at *
      refine hri.out.mono ?_; rintro e W1 ⟨rfl, hB1⟩
      have hc2 := (hB1.cell (p := ⟨w.heap.size, 0, none⟩) (by rw [hsz]; exact Nat.lt_succ_self _)).trans hc0
      go_wp2
      go_ret2
      rw [hr.out]
      exact ⟨_, rfl, OwnM_nil _ _, Below.then_ hbx hB1⟩
    · have hr : Hid (matR r = (0, compM r.by_)) := Lib.hid (by rw [matR, if_neg (by simpa using h0), if_neg h1])
      have hne : ((r.by_.length : Int) == 0) = false := by rw [beq_eq_false_iff_ne]; omega
      clear hR h0 o3 o4
      generalize r.by_.length = d at *
      go_enter Tryd.func75, Tryd.ntmps75
      go_wp2_with fail
      generalize w.alloc (.cells #[.slice A d c, b] 49) = X at *
      refine hri.out.mono ?_; rintro e W1 ⟨rfl, hB1⟩
      have hc2 := (hB1.cell (p := ⟨w.heap.size, 0, none⟩) (by rw [hsz]; exact Nat.lt_succ_self _)).trans hc0
      have hc3 := (hB1.cell (p := ⟨w.heap.size, 1, none⟩) (by rw [hsz]; exact Nat.lt_succ_self _)).trans hc1
      have hB2 := Below.then_ hbx hB1
      clear hri
      go_wp2_with fail
      refine (hf.out W1 hB2).mono ?_; rintro e W2 ⟨⟨v, rfl, hO⟩, hB3⟩
      have hB4 := Lib.hid (Below.then_ hB2 hB3)
      replace hO := Lib.hid hO
      clear hB3
      go_wp2
      go_ret2
      rw [hr.out]
      exact ⟨_, rfl, hO.out.base hB2.size, hB4.out⟩
  · have hr : Hid (matR r = (rightR r, [])) := Lib.hid (by rw [matR, if_pos h0])
    have hne : (rightR r != 0) = true := by rw [bne_iff_ne]; exact h0
    have hca := Lib.hid (rightR_cases r)
    generalize rightR r = x at *
    clear hR h0
    generalize r.by_.length = d at *
    go_enter Tryd.func75, Tryd.ntmps75
    go_wp2_with fail
    generalize w.alloc (.cells #[.slice A d c, b] 49) = X at *
    refine hri.out.mono ?_; rintro e W1 ⟨rfl, hB1⟩
    go_wp2
    go_ret2
    rw [hr.out]
    exact ⟨_, rfl, OwnM_nil _ _, Below.then_ hbx hB1⟩
end Go.Proofs.YtfljkcmijnhgkaaDoor

namespace Go.Proofs.YtfljkcmijnhgkaaDoor
open Go.RowKit Go.Shelf
set_option linter.unusedSimpArgs false
/-- Two results, the first one a row that lies in a cell. -/
theorem res_ct {P : Program} {fn : Func} {p u : Tmp} {ty : TypeId} (h : fn.results = #[.cell p ty, .tmp u]) (tmps : Array Value) (w : World) (g : Nat) (t : TypeId) (cs : Array Value) (fr : Nat × Nat) (d : TypeDesc)
    (hp : tmps.getD p undef = .pointer (some ⟨g, 0, none⟩)) (hg : w.heap[g]? = some (.cells cs t fr))
    (hu : P.underlying ty = some d) (hd : (match d with | .struct _ | .array _ _ => true | _ => false) = true) (hi : (P.info? ty).map (·.size) = some cs.size) :
    (results fn tmps).run P w = .ok (.tuple #[.agg cs, tmps.getD u undef]) w := by
  have hp' : tmps[p]?.getD undef = .pointer (some ⟨g, 0, none⟩) := by simpa using hp
  simp [results, h, hp', asAddr, run_loadVar_row w g t ty cs fr d hg hu hd hi]
theorem heap_set1 {W : World} {g k : Nat} {cs : Array Value} {t : TypeId} {fr : Nat × Nat} (a : Value) (h : W.heap[g]? = some (.cells cs t fr)) : (W.setCell ⟨g, k, none⟩ a).heap[g]? = some (.cells (cs.setIfInBounds k a) t fr) := by
  obtain ⟨hlt, hk⟩ := Array.getElem?_eq_some_iff.1 h
  show (W.heap.modify g _)[g]? = _
  rw [Array.getElem?_eq_getElem (by rw [Array.size_modify]; exact hlt), Array.getElem_modify_self, hk]
  rfl
theorem heap_set2 {W : World} {g : Nat} {x y : Value} {t : TypeId} {fr : Nat × Nat} (a b : Value) (h : W.heap[g]? = some (.cells #[x, y] t fr)) : ((W.setCell ⟨g, 0, none⟩ a).setCell ⟨g, 1, none⟩ b).heap[g]? = some (.cells #[a, b] t fr) := by
  have := heap_set1 (k := 1) b (heap_set1 (k := 0) a h)
  simpa using this
/-- What From tells: the error and the rule. -/
def frR (r : Rule) (n : Int) : Int × Rule := if rightR r ≠ 0 then (rightR r, ⟨[], []⟩) else if n < 0 then (3, ⟨[], []⟩) else (0, ⟨r.by_, fromM r n.toNat⟩)
/-- A rule of the call's own. -/
def OwnR (w : World) (base : Nat) (v : Value) (r : Rule) : Prop := ∃ a b, v = .agg #[a, b] ∧ OwnI w base a r.by_ ∧ OwnI w base b r.start
def RuleErr (r : Int × Rule) (w : World) (e : Ending) (w' : World) : Prop := ∃ v, e = .returned (.tuple #[v, .int .i64 r.1]) ∧ OwnR w' w.heap.size v r.2 ∧ Below w.heap.size w w'
set_option maxRecDepth 100000 in
set_option maxHeartbeats 1600000 in
theorem From_any (r : Rule) (n : Int) (v : Value) (w : World) (hn : n ≤ 9223372036854775807) (h : RdR w v r) :
    Calls Tryd.prog 74 #[v, .int .i64 n] w (RuleErr (frR r n) w) := by
  have hR := Lib.hid h
  obtain ⟨a, b, rfl, ra, rb⟩ := h
  have hbx : Below w.heap.size w ((w.alloc (.cells #[a, b] 49)).alloc (.cells #[.slice none 0 0, .slice none 0 0] 49)) := ((Below.refl _ _).alloc (Nat.le_refl _) _).alloc (by simp) _
  have hgb : ((w.alloc (.cells #[a, b] 49)).alloc (.cells #[.slice none 0 0, .slice none 0 0] 49)).heap[w.heap.size + 1]? = some (.cells #[.slice none 0 0, .slice none 0 0] 49 (0, 0)) := by
    have h := heap_alloc_new (w.alloc (.cells #[a, b] 49)) (.cells #[.slice none 0 0, .slice none 0 0] 49); rwa [World.size_alloc] at h
  have hga : ((w.alloc (.cells #[a, b] 49)).alloc (.cells #[.slice none 0 0, .slice none 0 0] 49)).heap[w.heap.size]? = some (.cells #[a, b] 49 (0, 0)) := by
    rw [((Below.refl _ (w.alloc (.cells #[a, b] 49))).alloc (Nat.le_refl _) _).block w.heap.size (by simp)]; exact heap_alloc_new _ _
  have hsz : ((w.alloc (.cells #[a, b] 49)).alloc (.cells #[.slice none 0 0, .slice none 0 0] 49)).heap.size = w.heap.size + 2 := by simp
  clear rb
  by_cases h0 : rightR r = 0
  · obtain ⟨o1, o2, o3, o4⟩ := rightR_ok h0
    by_cases h1 : n < 0
    · have hr : Hid (frR r n = (3, ⟨[], []⟩)) := Lib.hid (by rw [frR, if_neg (by simpa using h0), if_pos h1])
      have hri := Lib.hid (fun W (hW : Below w.heap.size w W) => Right_any r _ W (hR.out.below hW (Nat.le_refl _)))
      rw [h0] at hri
      clear hR h0
      go_enter Tryd.func74, Tryd.ntmps74
      go_wp2_with fail
      generalize (w.alloc (.cells #[a, b] 49)).alloc (.cells #[.slice none 0 0, .slice none 0 0] 49) = X at *
      refine (hri.out X hbx).mono ?_; rintro e W1 ⟨rfl, hB1⟩
      have hB2 := Below.then_ hbx hB1
      have hg2 := (hB1.block (w.heap.size + 1) (by omega)).trans hgb
      have d0 : W1.cell? ⟨w.heap.size + 1, 0, none⟩ = some (.slice none 0 0) := by unfold World.cell?; rw [hg2]; rfl
      have d1 : W1.cell? ⟨w.heap.size + 1, 1, none⟩ = some (.slice none 0 0) := by unfold World.cell?; rw [hg2]; rfl
      have d2 : W1.frozen? ⟨w.heap.size + 1, 0, none⟩ = false := by unfold World.frozen?; rw [hg2]; rfl
      have d3 : W1.frozen? ⟨w.heap.size + 1, 1, none⟩ = false := by unfold World.frozen?; rw [hg2]; rfl
      clear hga hgb hsz hbx
      go_wp2
      refine bodyPost_ret (res_ct rfl _ _ (w.heap.size + 1) 49 #[.slice none 0 0, .slice none 0 0] (0, 0) _ rfl (heap_set2 _ _ hg2) rfl rfl rfl) rfl ?_
      rw [hr.out]
      exact ⟨_, rfl, ⟨_, _, rfl, OwnI_nil _ _, OwnI_nil _ _⟩, (hB2.setCell (p := ⟨w.heap.size + 1, 0, none⟩) (by simp) _).setCell (p := ⟨w.heap.size + 1, 1, none⟩) (by simp) _⟩
    · have hr : Hid (frR r n = (0, ⟨r.by_, fromM r n.toNat⟩)) := Lib.hid (by rw [frR, if_neg (by simpa using h0), if_neg h1])
      obtain ⟨k, rfl⟩ := Int.eq_ofNat_of_zero_le (show 0 ≤ n by omega)
      rw [Int.toNat_natCast] at hr
      have hri := Lib.hid (fun W (hW : Below w.heap.size w W) => Right_any r _ W (hR.out.below hW (Nat.le_refl _)))
      rw [h0] at hri
      have hcl := Lib.hid (fun W (hW : Below w.heap.size w W) => Clone_any r.by_ a W (ra.below hW (Nat.le_refl _)) (by omega))
      have hf := Lib.hid (fun W (hW : Below w.heap.size w W) => from_any r k _ W (by omega) o2 o3 o4 (by omega) (hR.out.below hW (Nat.le_refl _)))
      clear hR h0
      go_enter Tryd.func74, Tryd.ntmps74
      go_wp2_with fail
      generalize (w.alloc (.cells #[a, b] 49)).alloc (.cells #[.slice none 0 0, .slice none 0 0] 49) = X at *
      refine (hri.out X hbx).mono ?_; rintro e W1 ⟨rfl, hB1⟩
      have hB2 := Lib.hid (Below.then_ hbx hB1)
      have hg2 := Lib.hid ((hB1.block (w.heap.size + 1) (by omega)).trans hgb)
      have hg3 := Lib.hid ((hB1.block w.heap.size (by omega)).trans hga)
      clear hga hgb hsz hbx hB1
      go_wp2
      refine D_begin (fun w' => w'.cell? ⟨w.heap.size, 0, none⟩ = some a ∧ w'.cell? ⟨w.heap.size, 1, none⟩ = some b) (fun _ => True) 7 (by kernel_rfl) ?_
      change wpAnyD _ _ _ _ _ _ _ _ _ _ W1.drew
      have HS : W1.drew.cell? ⟨w.heap.size, 0, none⟩ = some a ∧ W1.drew.cell? ⟨w.heap.size, 1, none⟩ = some b := ⟨by unfold World.cell?; rw [show W1.drew.heap[w.heap.size]? = _ from hg3.out]; rfl, by unfold World.cell?; rw [show W1.drew.heap[w.heap.size]? = _ from hg3.out]; rfl⟩
      simp only [List.size_toArray, List.length_cons, List.length_nil, Nat.reduceAdd, Array.replicate_succ, Array.replicate_zero, List.push_toArray, List.append_toArray, List.nil_append, List.cons_append]
      refine D_take (i := 0) (v := ?_) rfl (by kernel_rfl) (by kernel_rfl) (by kernel_rfl) (by kernel_rfl) (fun _ _ _ h => h) (Or.inl ⟨by rfl, ?_⟩) HS (fun _ => trivial) ?_
      rotate_left; · intro w1 hw1; obtain ⟨hw1, hw2⟩ := hw1; go_simp; try with_reducible rfl
      try simp only [Act.put, List.setIfInBounds_toArray, List.set_cons_zero, List.set_cons_succ]
      refine D_take (i := 1) (v := ?_) rfl (by kernel_rfl) (by kernel_rfl) (by kernel_rfl) (by kernel_rfl) (fun _ _ _ h => h) (Or.inl ⟨by rfl, ?_⟩) HS (fun _ => trivial) ?_
      rotate_left; · intro w1 hw1; obtain ⟨hw1, hw2⟩ := hw1; go_simp; try with_reducible rfl
      try simp only [Act.put, List.setIfInBounds_toArray, List.set_cons_zero, List.set_cons_succ]
      refine D_take (i := 3) (v := ?_) rfl (by kernel_rfl) (by kernel_rfl) (by kernel_rfl) (by kernel_rfl) (fun _ _ _ h => h) (Or.inl ⟨by rfl, ?_⟩) HS (fun _ => trivial) ?_
      rotate_left; · intro w1 hw1; obtain ⟨hw1, hw2⟩ := hw1; go_simp; try with_reducible rfl
      try simp only [Act.put, List.setIfInBounds_toArray, List.set_cons_zero, List.set_cons_succ]
      refine D_take (i := 4) (v := ?_) rfl (by kernel_rfl) (by kernel_rfl) (by kernel_rfl) (by kernel_rfl) (fun _ _ _ h => h) (Or.inl ⟨by rfl, ?_⟩) HS (fun _ => trivial) ?_
      rotate_left; · intro w1 hw1; obtain ⟨hw1, hw2⟩ := hw1; go_simp; try with_reducible rfl
      try simp only [Act.put, List.setIfInBounds_toArray, List.set_cons_zero, List.set_cons_succ]
      refine D_one (i := 2) (by kernel_rfl) rfl ?_
      intro K hK
      rw [if_pos (by rfl)]
      go_wp2_with fail
      refine (hcl.out W1.drew hB2.out.drew).mono ?_; rintro e W2 ⟨⟨va, rfl, hO1⟩, hB3⟩
      obtain ⟨A1, c1, rfl⟩ : ∃ A c, va = .slice A r.by_.length c := by have h := hO1; unfold OwnI at h; exact own_form h
      have hl1 : w.heap.size < W1.drew.heap.size := lt_of_block hg3.out
      have HS2 := And.intro ((hB3.cell (p := ⟨w.heap.size, 0, none⟩) hl1).trans HS.1) ((hB3.cell (p := ⟨w.heap.size, 1, none⟩) hl1).trans HS.2)
      have hB4 := Lib.hid (Below.then_ hB2.out.drew hB3)
      refine hK _ _ HS2 (fun _ _ => trivial) ?_
      clear hK K
      try simp only [List.setIfInBounds_toArray, List.set_cons_zero, List.set_cons_succ]
      refine D_one (i := 5) (by kernel_rfl) rfl ?_
      intro K hK
      rw [if_pos (by rfl)]
      go_wp2_with fail
      refine (hf.out W2 hB4.out).mono ?_; rintro e W3 ⟨⟨vb, rfl, hO2⟩, hB5⟩
      obtain ⟨A2, c2, rfl⟩ : ∃ A c, vb = .slice A (fromM r k).length c := by have h := hO2; unfold OwnI at h; exact own_form h
      have hl2 : w.heap.size < W2.heap.size := Nat.lt_of_lt_of_le hl1 hB3.size
      have hl3 : w.heap.size + 1 < W1.drew.heap.size := lt_of_block hg2.out
      have hl4 : w.heap.size + 1 < W2.heap.size := Nat.lt_of_lt_of_le hl3 hB3.size
      have HS3 := And.intro ((hB5.cell (p := ⟨w.heap.size, 0, none⟩) hl2).trans HS2.1) ((hB5.cell (p := ⟨w.heap.size, 1, none⟩) hl2).trans HS2.2)
      have hB6 := Lib.hid (Below.then_ hB4.out hB5)
      have hg4 := (hB5.block (w.heap.size + 1) hl4).trans ((hB3.block (w.heap.size + 1) hl3).trans hg2.out)
      have hO3 := Lib.hid (hO1.below hB5)
      replace hO2 := Lib.hid hO2
      have d0 : W3.cell? ⟨w.heap.size + 1, 0, none⟩ = some (.slice none 0 0) := by unfold World.cell?; rw [hg4]; rfl
      have d1 : W3.cell? ⟨w.heap.size + 1, 1, none⟩ = some (.slice none 0 0) := by unfold World.cell?; rw [hg4]; rfl
      have d2 : W3.frozen? ⟨w.heap.size + 1, 0, none⟩ = false := by unfold World.frozen?; rw [hg4]; rfl
      have d3 : W3.frozen? ⟨w.heap.size + 1, 1, none⟩ = false := by unfold World.frozen?; rw [hg4]; rfl
      refine hK _ _ HS3 (fun _ _ => trivial) ?_
      clear hK K
      try simp only [List.setIfInBounds_toArray, List.set_cons_zero, List.set_cons_succ]
      refine D_one (i := 6) (by kernel_rfl) rfl ?_
      intro K hK
      rw [if_pos (by rfl)]
      go_simp
      refine hK _ _ HS3 (fun _ _ => trivial) ?_
      clear hK K
      try simp only [List.setIfInBounds_toArray, List.set_cons_zero, List.set_cons_succ]
      refine D_one (i := 7) (by kernel_rfl) rfl ?_
      intro K hK
      rw [if_pos (by rfl)]
      go_simp
      have hne : w.heap.size ≠ w.heap.size + 1 := by omega
      have HS4 : ∀ x y, (((W3.setCell ⟨w.heap.size + 1, 0, none⟩ x).setCell ⟨w.heap.size + 1, 1, none⟩ y).cell? ⟨w.heap.size, 0, none⟩ = some a ∧ ((W3.setCell ⟨w.heap.size + 1, 0, none⟩ x).setCell ⟨w.heap.size + 1, 1, none⟩ y).cell? ⟨w.heap.size, 1, none⟩ = some b) := fun x y =>
        ⟨((World.cell?_of_block (Below.heap_setCell _ _ _ _ hne)).trans (World.cell?_of_block (Below.heap_setCell _ _ _ _ hne))).trans HS3.1, ((World.cell?_of_block (Below.heap_setCell _ _ _ _ hne)).trans (World.cell?_of_block (Below.heap_setCell _ _ _ _ hne))).trans HS3.2⟩
      refine hK _ _ (HS4 _ _) (fun _ _ => trivial) ?_
      clear hK K
      try simp only [List.setIfInBounds_toArray, List.set_cons_zero, List.set_cons_succ]
      refine D_one (i := 8) (by kernel_rfl) rfl ?_
      intro K hK
      rw [if_pos (by rfl)]
      go_simp
      refine hK _ _ (HS4 _ _) (fun _ _ => trivial) ?_
      clear hK K
      refine D_done (by kernel_rfl) ?_ _
      have hS5 : ∀ x y, Hid (Below w.heap.size w ((W3.setCell ⟨w.heap.size + 1, 0, none⟩ x).setCell ⟨w.heap.size + 1, 1, none⟩ y)) := fun x y => Lib.hid ((hB6.out.setCell (p := ⟨w.heap.size + 1, 0, none⟩) (by simp) _).setCell (p := ⟨w.heap.size + 1, 1, none⟩) (by simp) _)
      have hT1 : ∀ x y, OwnI ((W3.setCell ⟨w.heap.size + 1, 0, none⟩ x).setCell ⟨w.heap.size + 1, 1, none⟩ y) W1.drew.heap.size (.slice A1 r.by_.length c1) r.by_ := fun x y => own_of_block hO3.out (fun g hg => by
        have := (hO3.out.lt g hg).1
        rw [Below.heap_setCell _ _ _ _ (by show g ≠ w.heap.size + 1; omega), Below.heap_setCell _ _ _ _ (by show g ≠ w.heap.size + 1; omega)])
      have hT2 : ∀ x y, OwnI ((W3.setCell ⟨w.heap.size + 1, 0, none⟩ x).setCell ⟨w.heap.size + 1, 1, none⟩ y) W2.heap.size (.slice A2 (fromM r k).length c2) (fromM r k) := fun x y => own_of_block hO2.out (fun g hg => by
        have := (hO2.out.lt g hg).1
        rw [Below.heap_setCell _ _ _ _ (by show g ≠ w.heap.size + 1; omega), Below.heap_setCell _ _ _ _ (by show g ≠ w.heap.size + 1; omega)])
      have hsz1 : w.heap.size ≤ W1.drew.heap.size := Nat.le_of_lt hl1
      have hsz2 : w.heap.size ≤ W2.heap.size := Nat.le_of_lt hl2
      go_wp2
      refine bodyPost_ret (res_ct rfl _ _ (w.heap.size + 1) 49 #[.slice A1 r.by_.length c1, .slice A2 (fromM r k).length c2] (0, 0) _ rfl (heap_set2 _ _ hg4) rfl rfl rfl) rfl ?_
      rw [hr.out]
      exact ⟨_, rfl, ⟨_, _, rfl, (hT1 _ _).base hsz1, (hT2 _ _).base hsz2⟩, (hS5 _ _).out⟩
  · have hr : Hid (frR r n = (rightR r, ⟨[], []⟩)) := Lib.hid (by rw [frR, if_pos h0])
    have hne : (rightR r != 0) = true := by rw [bne_iff_ne]; exact h0
    have hca := Lib.hid (rightR_cases r)
    have hri := Lib.hid (fun W (hW : Below w.heap.size w W) => Right_any r _ W (hR.out.below hW (Nat.le_refl _)))
    generalize rightR r = x at *
    clear hR h0
    go_enter Tryd.func74, Tryd.ntmps74
    go_wp2_with fail
    generalize (w.alloc (.cells #[a, b] 49)).alloc (.cells #[.slice none 0 0, .slice none 0 0] 49) = X at *
    refine (hri.out X hbx).mono ?_; rintro e W1 ⟨rfl, hB1⟩
    have hB2 := Below.then_ hbx hB1
    have hg2 := (hB1.block (w.heap.size + 1) (by omega)).trans hgb
    have d0 : W1.cell? ⟨w.heap.size + 1, 0, none⟩ = some (.slice none 0 0) := by unfold World.cell?; rw [hg2]; rfl
    have d1 : W1.cell? ⟨w.heap.size + 1, 1, none⟩ = some (.slice none 0 0) := by unfold World.cell?; rw [hg2]; rfl
    have d2 : W1.frozen? ⟨w.heap.size + 1, 0, none⟩ = false := by unfold World.frozen?; rw [hg2]; rfl
    have d3 : W1.frozen? ⟨w.heap.size + 1, 1, none⟩ = false := by unfold World.frozen?; rw [hg2]; rfl
    clear hga hgb hsz hbx
    go_wp2
    refine bodyPost_ret (res_ct rfl _ _ (w.heap.size + 1) 49 #[.slice none 0 0, .slice none 0 0] (0, 0) _ rfl (heap_set2 _ _ hg2) rfl rfl rfl) rfl ?_
    rw [hr.out]
    exact ⟨_, rfl, ⟨_, _, rfl, OwnI_nil _ _, OwnI_nil _ _⟩, (hB2.setCell (p := ⟨w.heap.size + 1, 0, none⟩) (by simp) _).setCell (p := ⟨w.heap.size + 1, 1, none⟩) (by simp) _⟩
end Go.Proofs.YtfljkcmijnhgkaaDoor
