/- The reference's steps: its contract. The reference's Matrix: its contract. The reference's window: its contract. The reference's From: its contract. The reference's Term: its contract. -/
import Derived.Test.YtfljkcmijnhgkaaDoorKv
import Derived.Test.YtfljkcmijnhgkaaDoorKq
import Derived.Test.YtfljkcmijnhgkaaDoorKg
import Derived.Laws.IdiomCopy
import Derived.Test.YtfljkcmijnhgkaaDoorKr
namespace Go.Proofs.YtfljkcmijnhgkaaDoor
open Go.RowKit Go.Shelf
set_option linter.unusedSimpArgs false

def setFrom (r : List Int) (o : Nat) : List Int → List Int
  | [] => r
  | y :: ys => setFrom (r.set o y) (o + 1) ys
theorem setFrom_get (ys : List Int) : ∀ (r : List Int) (o j : Nat), o + ys.length ≤ r.length → (setFrom r o ys)[j]? = if o ≤ j ∧ j < o + ys.length then ys[j - o]? else r[j]? := by
  induction ys with
  | nil => intro r o j _; rw [setFrom, if_neg (by simp)]
  | cons y ys ih =>
    intro r o j h
    rw [setFrom, ih _ _ _ (by simp at h ⊢; omega)]
    simp only [List.length_cons] at h ⊢
    by_cases h1 : o = j
    · subst h1
      rw [if_neg (by omega), if_pos (by omega), List.getElem?_set_self (by omega), Nat.sub_self]; rfl
    · by_cases h2 : o + 1 ≤ j ∧ j < o + 1 + ys.length
      · rw [if_pos h2, if_pos (by omega), show j - o = (j - (o + 1)) + 1 by omega]; rfl
      · rw [if_neg h2, if_neg (by omega), List.getElem?_set_ne h1]
theorem setFrom_all {r ys : List Int} (h : r.length = ys.length) : setFrom r 0 ys = ys := by
  apply List.ext_getElem?
  intro j
  rw [setFrom_get _ _ _ _ (by omega)]
  by_cases hj : j < ys.length
  · rw [if_pos (by omega)]; rfl
  · rw [if_neg (by omega), List.getElem?_eq_none (by omega), List.getElem?_eq_none (by omega)]
/-- A whole list is stored into row i. -/
theorem OwnMv.puts {base g c n i : Nat} {v : Value} {vs : List Value} (hu : vs[i]? = some (.slice (some ⟨g, 0, none⟩) n c)) : ∀ (ys : List Int) (w : World) (rs : List (List Int)) (r : List Int) (o : Nat), OwnMv w base v rs vs → rs[i]? = some r →
    OwnMv (w.setCells g o (ints ys)) base v (rs.set i (setFrom r o ys)) vs ∧ KeptBut vs w (w.setCells g o (ints ys))
  | [], w, rs, r, o, h, hr => by
    rw [setFrom, list_set_same hr]
    exact ⟨h, KeptBut.refl _ _⟩
  | y :: ys, w, rs, r, o, h, hr => by
    obtain ⟨h1, k1⟩ := h.put hr hu (k := o) y
    have hlt := (List.getElem?_eq_some_iff.1 hr).1
    obtain ⟨h2, k2⟩ := OwnMv.puts hu ys _ _ (r.set o y) (o + 1) h1 (List.getElem?_set_self hlt)
    rw [list_set_set] at h2
    exact ⟨h2, k1.trans k2⟩
/-- The first k rows of the companion's matrix. -/
def stP (bs : List Int) (k : Nat) (a b : Nat) : Int := if a = 0 then bs.getD b 0 else if b + 1 = a ∧ a < k then 1 else 0
theorem stP_end (bs : List Int) : mat (stP bs bs.length) bs.length bs.length = compM bs := mat_congr fun a b ha _ => by
  unfold stP compE
  by_cases h : a = 0
  · rw [if_pos h, if_pos h]
  · rw [if_neg h, if_neg h]
    by_cases h2 : b + 1 = a
    · rw [if_pos ⟨h2, ha⟩, if_pos h2]
    · rw [if_neg (fun h => h2 h.1), if_neg h2]
theorem stP_one (bs : List Int) : (mat (fun _ _ => 0) bs.length bs.length).set 0 bs = mat (stP bs 1) bs.length bs.length := by
  apply List.ext_getElem (by simp [mat])
  intro a h1 h2
  have ha : a < bs.length := by simpa [mat] using h2
  rw [List.getElem_set]
  by_cases e : 0 = a
  · subst e
    rw [if_pos rfl]
    simp only [mat, List.getElem_map, List.getElem_range]
    apply List.ext_getElem (by simp)
    intro b h3 h4
    simp [stP, List.getD_eq_getElem?_getD, h3]
  · rw [if_neg e]
    simp only [mat, List.getElem_map, List.getElem_range]
    apply List.map_congr_left; intro b _
    rw [stP, if_neg (by omega), if_neg (by omega)]
set_option maxRecDepth 100000 in
set_option maxHeartbeats 3200000 in
theorem steps_any (r : Rule) (v : Value) (w : World) (h : RdR w v r) (h0 : 0 < r.by_.length) (h12 : r.by_.length ≤ 900) :
    Calls Tryd.prog 136 #[v] w fun e w' => (∃ u, e = .returned u ∧ OwnM w' w.heap.size u (compM r.by_)) ∧ Below w.heap.size w w' := by
  obtain ⟨a, b, rfl, ra, rb⟩ := h
  obtain ⟨A, c, rfl, h1, h2, h3⟩ := ra.open_
  obtain ⟨bA, oA, rfl, -⟩ := h3 0 h0
  have hbx : Below w.heap.size w (w.alloc (.cells #[.slice (some ⟨bA, oA, none⟩) r.by_.length c, b] 49)) := (Below.refl _ _).alloc (Nat.le_refl _) _
  have hg : (w.alloc (.cells #[.slice (some ⟨bA, oA, none⟩) r.by_.length c, b] 49)).heap[w.heap.size]? = some (.cells #[.slice (some ⟨bA, oA, none⟩) r.by_.length c, b] 49 (0, 0)) := heap_alloc_new _ _
  have hsz : (w.alloc (.cells #[.slice (some ⟨bA, oA, none⟩) r.by_.length c, b] 49)).heap.size = w.heap.size + 1 := by simp
  have hc0 : (w.alloc (.cells #[.slice (some ⟨bA, oA, none⟩) r.by_.length c, b] 49)).cell? ⟨w.heap.size, 0, none⟩ = some (.slice (some ⟨bA, oA, none⟩) r.by_.length c) := by unfold World.cell?; rw [hg]; rfl
  have hsrc : Hid (∀ W, Below w.heap.size w W → ∀ j u, (ints r.by_)[j]? = some u → W.cell? ((⟨bA, oA, none⟩ : Addr).add j) = some u) := Lib.hid (fun W hW j u hj => by
    have hj2 := (List.getElem?_eq_some_iff.1 hj).1
    rw [ints_len] at hj2
    obtain ⟨b1, o1, e1, hc1⟩ := h3 j hj2
    simp only [Option.some.injEq, Addr.mk.injEq, and_true] at e1
    obtain ⟨rfl, rfl⟩ := e1
    rw [add_off, (hW.cell (World.block_lt_of_cell? w _ hc1)).trans hc1]
    rw [ints_get, List.getElem?_eq_getElem hj2] at hj
    rw [List.getD_eq_getElem?_getD, List.getElem?_eq_getElem hj2]
    exact hj)
  have hse := Lib.hid (stP_end r.by_)
  have hso := Lib.hid (stP_one r.by_)
  have hz := Lib.hid (fun W => zeros_any r.by_.length r.by_.length W (by omega) (by omega))
  clear ra rb hg h3
  generalize hN : r.by_.length = N at *
  replace hN := Lib.hid hN
  replace hbx := Lib.hid hbx
  go_enter Tryd.func136, Tryd.ntmps136
  go_wp2_with fail
  generalize w.alloc (.cells #[.slice (some ⟨bA, oA, none⟩) N c, b] 49) = X at hbx hsz hc0 ⊢
  refine (hz.out X).mono ?_; rintro e W ⟨⟨u, rfl, ho⟩, hB0⟩
  obtain ⟨vs, hv⟩ := ho.v
  clear hz ho
  have hvl : vs.length = N := by have := hv.len; rwa [mat_len] at this
  have hc1 := (hB0.cell (World.block_lt_of_cell? X _ hc0)).trans hc0
  have hr0 := mat_get? (fun _ _ => 0) (n := N) (m := N) (i := 0) h0
  have hu0 : vs[0]? = some vs[0] := List.getElem?_eq_getElem (by omega)
  obtain ⟨g, cg, rfl, _, hglt, hcg, hfg⟩ := hv.at_ hr0 hu0
  obtain ⟨g0, c1, e0, -, -, -, -⟩ := hv.num hr0 hu0 (k := 0) (by simp; exact h0)
  rw [show ((List.range N).map fun _ => (0 : Int)).length = N by simp] at e0
  rw [mat_len] at *
  rw [e0] at hcg hu0
  clear e0
  have hcells : ∀ j, j < N → (W.drew.cell? ⟨g0, 0 + j, none⟩).isSome = true ∧ W.drew.frozen? ⟨g0, 0 + j, none⟩ = false := fun j hj => by
    obtain ⟨g4, c4, e4, -, -, hc4, hf4⟩ := hv.num hr0 hu0 (k := j) (by simp; exact hj)
    simp only [Value.slice.injEq, Option.some.injEq, Addr.mk.injEq, and_true] at e4
    obtain ⟨rfl, -, -⟩ := e4
    rw [Nat.zero_add]
    exact ⟨by rw [show W.drew.cell? _ = _ from hc4]; rfl, hf4⟩
  have hlen : (ints r.by_).length = N := by rw [ints_len, hN.out]
  have hBd : Below w.heap.size w W.drew := (Below.then_ hbx.out hB0).drew
  have hcp := fun ty => run_copy_cells (P := Tryd.prog) W.drew 23 23 ty 3 g0 0 N c1 ⟨bA, oA, none⟩ N c (ints r.by_) Tryd.underlying23 (by kernel_rfl) (by rw [hlen]; simp) (hsrc.out _ hBd) (fun j hj => (hcells j (by omega)).1) (fun j hj => (hcells j (by omega)).2) (fun u hu => by obtain ⟨x, _, rfl⟩ := List.mem_map.1 hu; rfl)
  obtain ⟨hP, hK⟩ := OwnMv.puts hu0 r.by_ W.drew _ _ 0 (hv.kept ((Below.refl W.heap.size W).drew)) hr0
  rw [setFrom_all (by simp [hN.out]), hso.out] at hP
  rw [hlen] at hcp
  have hge := Lib.hid hv.ge
  replace hP := Lib.hid hP
  replace hK := Lib.hid ((KeptBut.of_below (vs := vs) ((Below.refl W.heap.size W).drew)).trans hK)
  replace hsz := Lib.hid hsz
  clear hcells hlen hBd hr0 hu0 hv
  go_wp2
  go_still_tail 5, (by kernel_rfl)
  change wpList _ _ _ _ _ W.drew
  go_wp2
  generalize W.drew.setCells g0 0 (ints r.by_) = W1 at hP hK ⊢
  go_loopw [5] (fun ii wr => ∃ k : Nat, 1 ≤ k ∧ k ≤ N ∧ ii = .int .i64 k ∧ Hid (KeptBut vs W wr) ∧ Hid (OwnMv wr X.heap.size (.slice (some ⟨g, 0, none⟩) N cg) (mat (stP r.by_ k) N N) vs)) (fun ii _ => N - (intOf ii).toNat)
  case atStart => exact ⟨1, Nat.le_refl _, h0, rfl, hK, hP⟩
  case round =>
    obtain ⟨k, hk1, hk, rfl, hK, hM⟩ := hrel
    rename World => wr
    by_cases hlt : k < N
    · obtain ⟨p, rfl⟩ : ∃ p, k = p + 1 := ⟨k - 1, by omega⟩
      have hr := mat_get? (stP r.by_ (p + 1)) (n := N) (m := N) hlt
      have hu : vs[p + 1]? = some vs[p + 1] := List.getElem?_eq_getElem (by omega)
      obtain ⟨g', c', e', _, _, hc, hf⟩ := hM.out.at_ hr hu
      simp only [Value.slice.injEq, Option.some.injEq, Addr.mk.injEq, and_true] at e'
      obtain ⟨rfl, -, -⟩ := e'
      obtain ⟨g1, c3, e1, _, _, hc1', hf1⟩ := hM.out.num hr hu (k := p) (by simp; omega)
      rw [show ((List.range N).map (stP r.by_ (p + 1) (p + 1))).length = N by simp] at e1
      rw [e1] at hc hu
      have hput := hM.out.put hr hu (k := p) 1
      rw [mat_put (stP r.by_ (p + 1)) (stP r.by_ (p + 1 + 1)) 1 (fun a b _ _ => by
        unfold stP
        by_cases e : a = p + 1 ∧ b = p
        · rw [if_pos e, if_neg (by omega), if_pos (by omega)]
        · rw [if_neg e]
          by_cases e0 : a = 0
          · rw [if_pos e0, if_pos e0]
          · rw [if_neg e0, if_neg e0]
            by_cases e2 : b + 1 = a ∧ a < p + 1
            · rw [if_pos e2, if_pos (by omega)]
            · rw [if_neg e2, if_neg (by omega)])] at hput
      have hput2 := Lib.hid hput.1
      have hK2 := Lib.hid (hK.out.trans hput.2)
      clear hput hr hu hM e1
      generalize ((List.range N).map (stP r.by_ (p + 1) (p + 1))).getD p 0 = x at hc1'
      have k1 : ((p + 1 : Nat) : Int) < (N : Int) := by omega
      have p1 : (p : Int) < (N : Int) := by omega
      have p0 : (0 : Int) ≤ (p : Int) := by omega
      have w1 : ((p + 1 : Nat) : Int) - 1 = (p : Int) := by omega
      clear hvl
      go_wp2
      go_roundw
      case rel => exact ⟨p + 1 + 1, by omega, by omega, by go_num, hK2, hput2⟩
      case measure => simp [intOf] <;> omega
    · obtain rfl : N = k := by omega
      go_wp2
      go_ret
      have hs := hsz.out
      have hB0s := hB0.size
      have hMm := hM.out.m
      rw [hse.out] at hMm
      exact ⟨⟨_, rfl, hMm.base (by omega)⟩, hbx.out.trans ((hB0.trans (hK.out.below hB0s (fun u hu q hq => (hge.out u hu q hq).1))).mono (by omega))⟩
end Go.Proofs.YtfljkcmijnhgkaaDoor

namespace Go.Proofs.YtfljkcmijnhgkaaDoor
open Go.RowKit Go.Shelf
set_option linter.unusedSimpArgs false

set_option maxHeartbeats 1600000 in
theorem refMatrix_any (r : Rule) (v : Value) (w : World) (h : RdR w v r) :
    Calls Tryd.prog 82 #[v] w (MatErr (matR r) w) := by
  have hR := Lib.hid h
  obtain ⟨a, b, rfl, ra, rb⟩ := h
  have hbx : Below w.heap.size w (w.alloc (.cells #[a, b] 49)) := (Below.refl _ _).alloc (Nat.le_refl _) _
  have hg : (w.alloc (.cells #[a, b] 49)).heap[w.heap.size]? = some (.cells #[a, b] 49 (0, 0)) := heap_alloc_new _ _
  have hsz : (w.alloc (.cells #[a, b] 49)).heap.size = w.heap.size + 1 := by simp
  have hc0 : (w.alloc (.cells #[a, b] 49)).cell? ⟨w.heap.size, 0, none⟩ = some a := by unfold World.cell?; rw [hg]; rfl
  have hc1 : (w.alloc (.cells #[a, b] 49)).cell? ⟨w.heap.size, 1, none⟩ = some b := by unfold World.cell?; rw [hg]; rfl
  have hri := Lib.hid (refRight_any r _ _ (hR.out.below hbx (Nat.le_refl _)))
  obtain ⟨A, c, rfl, l1, l2, -⟩ := ra.open_
  clear rb hg ra
  by_cases h0 : rightR r = 0
  · obtain ⟨o1, o2, o3, o4⟩ := rightR_ok h0
    rw [h0] at hri
    have hf := Lib.hid (fun (hp : 0 < r.by_.length) W (hW : Below w.heap.size w W) => steps_any r _ W (hR.out.below hW (Nat.le_refl _)) hp (by omega))
    by_cases h1 : r.by_.length = 0
    · have hr : Hid (matR r = (6, [])) := Lib.hid (by rw [matR, if_neg (by simpa using h0), if_pos h1])
      clear hR h0
      generalize r.by_.length = d at *
      subst h1
      go_enter Tryd.func82, Tryd.ntmps82
      go_wp2_with fail
      generalize w.alloc (.cells #[.slice A 0 c, b] 49) = X at *
      refine hri.out.mono ?_; rintro e W1 ⟨rfl, hB1⟩
      have hc2 := (hB1.cell (p := ⟨w.heap.size, 0, none⟩) (by rw [hsz]; exact Nat.lt_succ_self _)).trans hc0
      go_wp2
      go_ret2
      rw [hr.out]
      exact ⟨_, rfl, OwnM_nil _ _, Below.then_ hbx hB1⟩
    · have hr : Hid (matR r = (0, compM r.by_)) := Lib.hid (by rw [matR, if_neg (by simpa using h0), if_neg h1])
      have hne : ((r.by_.length : Int) == 0) = false := by rw [beq_eq_false_iff_ne]; omega
      clear hR h0 o3 o4
      generalize r.by_.length = d at *
      go_enter Tryd.func82, Tryd.ntmps82
      go_wp2_with fail
      generalize w.alloc (.cells #[.slice A d c, b] 49) = X at *
      refine hri.out.mono ?_; rintro e W1 ⟨rfl, hB1⟩
      have hc2 := (hB1.cell (p := ⟨w.heap.size, 0, none⟩) (by rw [hsz]; exact Nat.lt_succ_self _)).trans hc0
      have hc3 := (hB1.cell (p := ⟨w.heap.size, 1, none⟩) (by rw [hsz]; exact Nat.lt_succ_self _)).trans hc1
      have hB2 := Below.then_ hbx hB1
      clear hri
      go_wp2_with fail
      refine (hf.out (by omega) W1 hB2).mono ?_; rintro e W2 ⟨⟨v, rfl, hO⟩, hB3⟩
      have hB4 := Lib.hid (Below.then_ hB2 hB3)
      replace hO := Lib.hid hO
      clear hB3
      go_wp2
      go_ret2
      rw [hr.out]
      exact ⟨_, rfl, hO.out.base hB2.size, hB4.out⟩
  · have hr : Hid (matR r = (rightR r, [])) := Lib.hid (by rw [matR, if_pos h0])
    have hne : (rightR r != 0) = true := by rw [bne_iff_ne]; exact h0
    have hca := Lib.hid (rightR_cases r)
    generalize rightR r = x at *
    clear hR h0
    generalize r.by_.length = d at *
    go_enter Tryd.func82, Tryd.ntmps82
    go_wp2_with fail
    generalize w.alloc (.cells #[.slice A d c, b] 49) = X at *
    refine hri.out.mono ?_; rintro e W1 ⟨rfl, hB1⟩
    go_wp2
    go_ret2
    rw [hr.out]
    exact ⟨_, rfl, OwnM_nil _ _, Below.then_ hbx hB1⟩
end Go.Proofs.YtfljkcmijnhgkaaDoor

namespace Go.Proofs.YtfljkcmijnhgkaaDoor
open Go.RowKit Go.Shelf
set_option linter.unusedSimpArgs false

/-- A term of the window, so many products taken. -/
def wnS (F : List (List Int)) (st : List Int) (m i k : Nat) : Int := psum (fun j => gM F i j * st.getD (m - 1 - j) 0 % 65521) k % 65521
def wnE (F : List (List Int)) (st : List Int) (m i k a : Nat) : Int := if a < i then wnS F st m a m else if a = i then wnS F st m a k else 0
def wnL (F : List (List Int)) (st : List Int) (m i k : Nat) : List Int := (List.range m).map fun x => wnE F st m i k (m - 1 - x)
theorem wnL_len (F : List (List Int)) (st : List Int) (m i k : Nat) : (wnL F st m i k).length = m := by simp [wnL]
theorem wnS_step (F : List (List Int)) (st : List Int) (m i k : Nat) : wnS F st m i (k + 1) = (wnS F st m i k + gM F i k * st.getD (m - 1 - k) 0) % 65521 := by
  unfold wnS
  rw [psum]
  generalize psum _ k = S
  generalize gM F i k * st.getD (m - 1 - k) 0 = t
  omega
theorem wnL_zero (F : List (List Int)) (st : List Int) (m : Nat) : wnL F st m 0 0 = List.replicate m 0 := by
  apply List.ext_getElem (by simp [wnL])
  intro x h1 h2
  simp only [wnL, List.getElem_map, List.getElem_range, List.getElem_replicate, wnE]
  rw [if_neg (by omega)]
  split
  · simp [wnS, psum]
  · rfl
theorem wnL_row (F : List (List Int)) (st : List Int) (m i : Nat) : wnL F st m i m = wnL F st m (i + 1) 0 := by
  apply List.map_congr_left; intro x _
  unfold wnE
  by_cases h : m - 1 - x < i
  · rw [if_pos h, if_pos (by omega)]
  · rw [if_neg h]
    by_cases h2 : m - 1 - x = i
    · rw [if_pos h2, if_pos (by omega)]
    · rw [if_neg h2, if_neg (by omega)]
      split
      · simp [wnS, psum]
      · rfl
theorem wnL_get (F : List (List Int)) (st : List Int) {m i k p : Nat} (hp : p = m - 1 - i) (hi : i < m) : (wnL F st m i k).getD p 0 = wnS F st m i k := by
  rw [List.getD_eq_getElem?_getD, wnL, List.getElem?_map, List.getElem?_range (by omega)]
  show wnE F st m i k (m - 1 - p) = _
  rw [wnE, if_neg (by omega), if_pos (by omega), show m - 1 - p = i by omega]
theorem wnL_set (F : List (List Int)) (st : List Int) {m i k p : Nat} (hp : p = m - 1 - i) (hi : i < m) : (wnL F st m i k).set p (wnS F st m i (k + 1)) = wnL F st m i (k + 1) := by
  apply List.ext_getElem (by simp [wnL])
  intro x h1 h2
  have hx : x < m := by simpa [wnL] using h2
  rw [List.getElem_set]
  simp only [wnL, List.getElem_map, List.getElem_range, wnE]
  by_cases e : p = x
  · rw [if_pos e, if_neg (by omega), if_pos (by omega), show m - 1 - x = i by omega]
  · rw [if_neg e]
    by_cases h : m - 1 - x < i
    · rw [if_pos h, if_pos h]
    · rw [if_neg h, if_neg h, if_neg (by omega), if_neg (by omega)]
theorem wnL_end {F : List (List Int)} {st : List Int} {m : Nat} (hF : okM F m m) (hst : st.length = m) (hm : 0 < m) : wnL F st m m 0 = ((prodM F (colM st)).map fun u => u.getD 0 0).reverse := by
  have hC : okM (colM st) m 1 → True := fun _ => trivial
  clear hC
  have hl0 : len0 (colM st) = 1 := by
    unfold len0 colM
    rw [mat_getD _ (by omega)]; simp
  have hP : prodM F (colM st) = mat (prodE F (colM st)) m 1 := by rw [prodM, hF.1, hl0]
  rw [hP]
  apply List.ext_getElem (by simp [wnL, mat])
  intro x h1 h2
  have hx : x < m := by simpa [wnL] using h1
  rw [List.getElem_reverse]
  simp only [wnL, mat, List.getElem_map, List.getElem_range, List.length_map, List.length_range, wnE]
  rw [if_pos (by omega)]
  simp only [List.range_one, List.map_cons, List.map_nil, List.getD_cons_zero]
  rw [prodE, hF.row (by omega), wnS]
  congr 1
  exact psum_congr (fun j hj => by
    rw [show gM (colM st) j 0 = st.getD (m - 1 - j) 0 from by
      unfold colM
      rw [gM_mat _ (by omega) (by omega), colE, hst]])
set_option maxRecDepth 100000 in
set_option maxHeartbeats 6400000 in
theorem window_any (r : Rule) (n : Nat) (v : Value) (w : World) (h : RdR w v r) (hr : rightR r = 0) (hn : n ≤ 9223372036854775807) :
    Calls Tryd.prog 135 #[v, .int .i64 n] w fun e w' => (∃ u, e = .returned u ∧ OwnI w' w.heap.size u (fromM r n)) ∧ Below w.heap.size w w' := by
  have hR := Lib.hid h
  obtain ⟨a, b, rfl, ra, rb⟩ := h
  obtain ⟨hl12, hll, hbb, hbs⟩ := rightR_ok hr
  obtain ⟨A, c, rfl, h1, h2, -⟩ := ra.open_
  obtain ⟨B, d, rfl, g1, g2, g3⟩ := rb.open_
  have hbx : Below w.heap.size w (w.alloc (.cells #[.slice A r.by_.length c, .slice B r.start.length d] 49)) := (Below.refl _ _).alloc (Nat.le_refl _) _
  have hg : (w.alloc (.cells #[.slice A r.by_.length c, .slice B r.start.length d] 49)).heap[w.heap.size]? = some (.cells #[.slice A r.by_.length c, .slice B r.start.length d] 49 (0, 0)) := heap_alloc_new _ _
  have hsz : (w.alloc (.cells #[.slice A r.by_.length c, .slice B r.start.length d] 49)).heap.size = w.heap.size + 1 := by simp
  have hc0 : (w.alloc (.cells #[.slice A r.by_.length c, .slice B r.start.length d] 49)).cell? ⟨w.heap.size, 0, none⟩ = some (.slice A r.by_.length c) := by unfold World.cell?; rw [hg]; rfl
  have hc1 : (w.alloc (.cells #[.slice A r.by_.length c, .slice B r.start.length d] 49)).cell? ⟨w.heap.size, 1, none⟩ = some (.slice B r.start.length d) := by unfold World.cell?; rw [hg]; rfl
  by_cases hm : r.by_.length = 0
  · have hres : Hid (fromM r n = []) := Lib.hid (by rw [fromM, if_pos hm])
    clear ra rb hg g3 hR hll hl12 hbb hbs hr
    generalize r.by_.length = N at *
    generalize r.start.length = M at *
    subst hm
    go_enter Tryd.func135, Tryd.ntmps135
    go_wp2
    go_ret
    exact ⟨⟨_, rfl, by rw [hres.out]; exact OwnI_nil _ _⟩, hbx⟩
  · have hokF := Lib.hid (okM_powMat (by omega) (okM_comp hbb) n)
    have hend := Lib.hid (wnL_end hokF.out hll (by omega))
    have hres : Hid (fromM r n = ((prodM (powMat (compM r.by_) n) (colM r.start)).map fun u => u.getD 0 0).reverse) := Lib.hid (by rw [fromM, if_neg hm])
    have hst := Lib.hid (fun W (hW : Below w.heap.size w W) => steps_any r _ W (hR.out.below hW (Nat.le_refl _)) (by omega) (by omega))
    have hpw := Lib.hid (fun u W hu => refpower_any (compM r.by_) r.by_.length u n W (okM_comp hbb) (by omega) (by omega) hn hu)
    have hsb : Hid (∀ j, 0 ≤ r.start.getD j 0 ∧ r.start.getD j 0 < 65521) := Lib.hid (fun k => by
      by_cases hk : k < r.start.length
      · rw [List.getD_eq_getElem?_getD, List.getElem?_eq_getElem hk]; exact hbs _ (List.getElem_mem hk)
      · rw [List.getD_eq_getElem?_getD, List.getElem?_eq_none (by omega)]; decide)
    have hokC := Lib.hid (okM_comp hbb)
    have hmk := run_make_row' (P := Tryd.prog) 23 3 _ _ Tryd.underlying23 infoI rfl .i64 .i64 r.by_.length (by omega) (by omega)
    rw [hll] at *
    replace g3 := Lib.hid g3
    replace hbx := Lib.hid hbx
    clear ra rb hg hbb hbs hR
    generalize hM : r.by_.length = m at *
    replace hM := Lib.hid hM
    have hne : ((m : Int) == 0) = false := by rw [beq_eq_false_iff_ne]; omega
    generalize hF : powMat (compM r.by_) n = F at *
    replace hF := Lib.hid hF
    go_enter Tryd.func135, Tryd.ntmps135
    go_wp2_with fail
    generalize w.alloc (.cells #[.slice A m c, .slice B m d] 49) = X at hbx hsz hc0 hc1 ⊢
    refine (hst.out X hbx.out).mono ?_; rintro e W1 ⟨⟨u1, rfl, o1⟩, hB1⟩
    have rd1 := Lib.hid (o1.rdOk hokC.out (by omega) (by omega))
    clear o1 hst
    go_wp2_with fail
    refine (hpw.out u1 W1 rd1.out).mono ?_; rintro e W2 ⟨⟨u2, rfl, o2⟩, hB2⟩
    have rd2 := Lib.hid (o2.rdOk hokF.out (by omega) (by omega))
    clear o2 hpw rd1
    have hBX2 := Lib.hid (Below.then_ hB1 hB2)
    have hc1' := (hBX2.out.cell (World.block_lt_of_cell? X _ hc1)).trans hc1
    clear hB1 hB2 hc0
    have h0 := Lib.hid (OwnI_made W2 W2.heap.size m (Nat.le_refl _) (by unfold maxLen; omega))
    have hB0 : Hid (Below W2.heap.size W2 (W2.alloc (.cells (madeCells #[.int .i64 0] m) 3))) := Lib.hid ((Below.refl _ _).alloc (Nat.le_refl _) _)
    obtain ⟨A2, c2, rfl, -, -, f3⟩ := rd2.out.open_
    rw [hokF.out.1] at f3 ⊢
    replace f3 := Lib.hid f3
    clear rd2
    go_wp2
    generalize W2.alloc (.cells (madeCells #[.int .i64 0] m) 3) = w1 at h0 hB0 ⊢
    have hBW2 := Lib.hid (Below.then_ hbx.out hBX2.out)
    have hszw := hBX2.out.size
    clear hbx hmk
    have m1' : IntKind.i64.wrap ((m : Int) - 1) = (m : Int) - 1 := IntWalk.i64_in _ ⟨by omega, by omega⟩
    go_loopw [8, 9] (fun ii _ wr => ∃ i : Nat, i ≤ m ∧ ii = .int .i64 i ∧ Hid (Below W2.heap.size W2 wr) ∧ Hid (OwnI wr W2.heap.size (.slice (some ⟨W2.heap.size, 0, none⟩) m m) (wnL F r.start m i 0))) (fun ii _ _ => m - (intOf ii).toNat)
    case atStart => exact ⟨0, Nat.zero_le _, rfl, hB0, Lib.hid (by rw [wnL_zero]; exact h0.out)⟩
    case round =>
      obtain ⟨i, hi, rfl, hB, hO⟩ := hrel
      rename World => wr
      by_cases him : i < m
      · have i1 : (i : Int) < (m : Int) := by omega
        have i0 : (0 : Int) ≤ (i : Int) := by omega
        obtain ⟨p, hp⟩ : ∃ p, p = m - 1 - i := ⟨_, rfl⟩
        have hpi : (m : Int) - 1 - (i : Int) = (p : Int) := by omega
        have w2 : IntKind.i64.wrap ((m : Int) - 1 - (i : Int)) = (p : Int) := by rw [IntWalk.i64_in _ ⟨by omega, by omega⟩]; exact hpi
        replace hpi := Lib.hid hpi
        have hp1 : (p : Int) < (m : Int) := by omega
        have hp0 : (0 : Int) ≤ (p : Int) := by omega
        have hpm : p < m := by omega
        replace hp := Lib.hid hp
        go_wp2
        obtain ⟨wo, rfl⟩ : ∃ wo : World, wo = wr := ⟨_, rfl⟩
        go_loopw [9] (fun ii wr => ∃ k : Nat, k ≤ m ∧ ii = .int .i64 k ∧ Hid (Below W2.heap.size W2 wr) ∧ Hid (OwnI wr W2.heap.size (.slice (some ⟨W2.heap.size, 0, none⟩) m m) (wnL F r.start m i k))) (fun ii _ => m - (intOf ii).toNat)
        case atStart => exact ⟨0, Nat.zero_le _, rfl, hB, hO⟩
        case round =>
          obtain ⟨k, hk, rfl, hB, hO⟩ := hrel
          rename World => wr2
          by_cases hkm : k < m
          · obtain ⟨bf, offf, uf, rfl, hcf, huf⟩ := f3.out i him
            obtain ⟨Af, cf, rfl, -, -, ef⟩ := huf.open_
            rw [hokF.out.row him] at ef hcf
            obtain ⟨bf2, offf2, rfl, hcf2⟩ := ef k hkm
            change _ = some (Value.int .i64 (gM F i k)) at hcf2
            obtain ⟨q, hq⟩ : ∃ q, q = m - 1 - k := ⟨_, rfl⟩
            obtain ⟨bs, offs, rfl, hcs⟩ := g3.out q (by omega)
            have hqi : (m : Int) - 1 - (k : Int) = (q : Int) := by omega
            have w3 : IntKind.i64.wrap ((m : Int) - 1 - (k : Int)) = (q : Int) := by rw [IntWalk.i64_in _ ⟨by omega, by omega⟩]; exact hqi
            replace hqi := Lib.hid hqi
            have hcs2 := ((hBW2.out.trans (hB.out.mono (by omega))).cell (World.block_lt_of_cell? w _ hcs)).trans hcs
            have hcf' := (hB.out.cell (World.block_lt_of_cell? W2 _ hcf)).trans hcf
            have hcf2' := (hB.out.cell (World.block_lt_of_cell? W2 _ hcf2)).trans hcf2
            have hc1'' := (hB.out.cell (World.block_lt_of_cell? W2 _ hc1')).trans hc1'
            obtain ⟨hxc, hxf⟩ := hO.out.num (k := p) (by rw [wnL_len]; exact hpm)
            rw [wnL_get F r.start hp.out him] at hxc
            have hput := (hO.out.below ((Below.refl wr2.heap.size wr2).drew)).put p (wnS F r.start m i (k + 1))
            rw [wnL_set F r.start hp.out him, wnS_step, ← hq] at hput
            have hS : 0 ≤ wnS F r.start m i k ∧ wnS F r.start m i k < 65521 := ⟨Int.emod_nonneg _ (by decide), Int.emod_lt_of_pos _ (by decide)⟩
            have n1 := hokF.out.num i k
            have n2 := hsb.out q
            have ⟨m1, m2⟩ := mul_bd n1.1 n1.2 n2.1 n2.2
            have hB3 : Hid (Below W2.heap.size W2 (wr2.drew.setCell ⟨W2.heap.size, p, none⟩ (.int .i64 ((wnS F r.start m i k + gM F i k * r.start.getD q 0) % 65521)))) := Lib.hid (hB.out.drew.setCell (Nat.le_refl _) _)
            replace hput := Lib.hid hput
            have hq1 : (q : Int) < (m : Int) := by omega
            have hq0 : (0 : Int) ≤ (q : Int) := by omega
            replace hq := Lib.hid hq
            clear hcs hcf hcf2 ef huf hO hB
            generalize wnS F r.start m i k = S at *
            generalize gM F i k = x at *
            generalize r.start.getD q 0 = y at *
            have w4 : IntKind.i64.wrap (x * y) = x * y := IntWalk.i64_in _ ⟨by omega, by omega⟩
            have w5 : IntKind.i64.wrap (S + x * y) = S + x * y := IntWalk.i64_in _ ⟨by omega, by omega⟩
            have w6 : (S + x * y).tmod 65521 = (S + x * y) % 65521 := Int.tmod_eq_emod_of_nonneg (by omega)
            have k1 : (k : Int) < (m : Int) := by omega
            have k0 : (0 : Int) ≤ (k : Int) := by omega
            go_wp2
            go_still_tail 31, (by kernel_rfl)
            change wpList _ _ _ _ _ wr2.drew
            replace hxc : wr2.drew.cell? _ = _ := hxc
            replace hxf : wr2.drew.frozen? _ = _ := hxf
            clear hcs2 hcf' hcf2' hc1''
            generalize wr2.drew = wd at hxc hxf hput hB3 ⊢
            go_wp2
            go_roundw
            case rel => exact ⟨k + 1, by omega, by go_num, hB3, hput⟩
            case measure => simp [intOf] <;> omega
          · obtain rfl : m = k := by omega
            go_wp2
            go_roundw
            case rel => exact ⟨i + 1, by omega, by go_num, hB, by rw [← wnL_row]; exact hO⟩
            case measure => simp [intOf] <;> omega
      · obtain rfl : m = i := by omega
        go_wp2
        go_ret
        have hsw := hBW2.out.size
        refine ⟨⟨_, rfl, ?_⟩, hBW2.out.trans (hB.out.mono hsw)⟩
        rw [hres.out, ← hend.out]
        exact hO.out.base hsw
end Go.Proofs.YtfljkcmijnhgkaaDoor

namespace Go.Proofs.YtfljkcmijnhgkaaDoor
open Go.RowKit Go.Shelf
set_option linter.unusedSimpArgs false

set_option maxRecDepth 100000 in
set_option maxHeartbeats 3200000 in
theorem refFrom_any (r : Rule) (n : Int) (v : Value) (w : World) (hn : n ≤ 9223372036854775807) (h : RdR w v r) :
    Calls Tryd.prog 81 #[v, .int .i64 n] w (RuleErr (frR r n) w) := by
  have hR := Lib.hid h
  obtain ⟨a, b, rfl, ra, rb⟩ := h
  have hbx : Below w.heap.size w ((w.alloc (.cells #[a, b] 49)).alloc (.cells #[.slice none 0 0, .slice none 0 0] 49)) := ((Below.refl _ _).alloc (Nat.le_refl _) _).alloc (by simp) _
  have hgb : ((w.alloc (.cells #[a, b] 49)).alloc (.cells #[.slice none 0 0, .slice none 0 0] 49)).heap[w.heap.size + 1]? = some (.cells #[.slice none 0 0, .slice none 0 0] 49 (0, 0)) := by
    have h := heap_alloc_new (w.alloc (.cells #[a, b] 49)) (.cells #[.slice none 0 0, .slice none 0 0] 49); rwa [World.size_alloc] at h
  have hga : ((w.alloc (.cells #[a, b] 49)).alloc (.cells #[.slice none 0 0, .slice none 0 0] 49)).heap[w.heap.size]? = some (.cells #[a, b] 49 (0, 0)) := by
    rw [((Below.refl _ (w.alloc (.cells #[a, b] 49))).alloc (Nat.le_refl _) _).block w.heap.size (by simp)]; exact heap_alloc_new _ _
  have hsz : ((w.alloc (.cells #[a, b] 49)).alloc (.cells #[.slice none 0 0, .slice none 0 0] 49)).heap.size = w.heap.size + 2 := by simp
  clear rb
  by_cases h0 : rightR r = 0
  · obtain ⟨o1, o2, o3, o4⟩ := rightR_ok h0
    by_cases h1 : n < 0
    · have hr : Hid (frR r n = (3, ⟨[], []⟩)) := Lib.hid (by rw [frR, if_neg (by simpa using h0), if_pos h1])
      have hri := Lib.hid (fun W (hW : Below w.heap.size w W) => refRight_any r _ W (hR.out.below hW (Nat.le_refl _)))
      rw [h0] at hri
      clear hR h0
      go_enter Tryd.func81, Tryd.ntmps81
      go_wp2_with fail
      generalize (w.alloc (.cells #[a, b] 49)).alloc (.cells #[.slice none 0 0, .slice none 0 0] 49) = X at *
      refine (hri.out X hbx).mono ?_; rintro e W1 ⟨rfl, hB1⟩
      have hB2 := Below.then_ hbx hB1
      have hg2 := (hB1.block (w.heap.size + 1) (by omega)).trans hgb
      have d0 : W1.cell? ⟨w.heap.size + 1, 0, none⟩ = some (.slice none 0 0) := by unfold World.cell?; rw [hg2]; rfl
      have d1 : W1.cell? ⟨w.heap.size + 1, 1, none⟩ = some (.slice none 0 0) := by unfold World.cell?; rw [hg2]; rfl
      have d2 : W1.frozen? ⟨w.heap.size + 1, 0, none⟩ = false := by unfold World.frozen?; rw [hg2]; rfl
      have d3 : W1.frozen? ⟨w.heap.size + 1, 1, none⟩ = false := by unfold World.frozen?; rw [hg2]; rfl
      clear hga hgb hsz hbx
      go_wp2
      refine bodyPost_ret (res_ct rfl _ _ (w.heap.size + 1) 49 #[.slice none 0 0, .slice none 0 0] (0, 0) _ rfl (heap_set2 _ _ hg2) rfl rfl rfl) rfl ?_
      rw [hr.out]
      exact ⟨_, rfl, ⟨_, _, rfl, OwnI_nil _ _, OwnI_nil _ _⟩, (hB2.setCell (p := ⟨w.heap.size + 1, 0, none⟩) (by simp) _).setCell (p := ⟨w.heap.size + 1, 1, none⟩) (by simp) _⟩
    · have hr : Hid (frR r n = (0, ⟨r.by_, fromM r n.toNat⟩)) := Lib.hid (by rw [frR, if_neg (by simpa using h0), if_neg h1])
      obtain ⟨k, rfl⟩ := Int.eq_ofNat_of_zero_le (show 0 ≤ n by omega)
      rw [Int.toNat_natCast] at hr
      have hri := Lib.hid (fun W (hW : Below w.heap.size w W) => refRight_any r _ W (hR.out.below hW (Nat.le_refl _)))
      rw [h0] at hri
      have hcl := Lib.hid (fun W (hW : Below w.heap.size w W) => ra.below hW (Nat.le_refl _))
      have hf := Lib.hid (fun W (hW : Below w.heap.size w W) => window_any r k _ W (hR.out.below hW (Nat.le_refl _)) h0 (by omega))
      clear hR h0
      go_enter Tryd.func81, Tryd.ntmps81
      go_wp2_with fail
      generalize (w.alloc (.cells #[a, b] 49)).alloc (.cells #[.slice none 0 0, .slice none 0 0] 49) = X at *
      refine (hri.out X hbx).mono ?_; rintro e W1 ⟨rfl, hB1⟩
      have hB2 := Lib.hid (Below.then_ hbx hB1)
      have hg2 := Lib.hid ((hB1.block (w.heap.size + 1) (by omega)).trans hgb)
      have hg3 := Lib.hid ((hB1.block w.heap.size (by omega)).trans hga)
      clear hga hgb hsz hbx hB1
      go_wp2
      refine D_begin (fun w' => w'.cell? ⟨w.heap.size, 0, none⟩ = some a ∧ w'.cell? ⟨w.heap.size, 1, none⟩ = some b) (fun _ => True) 8 (by kernel_rfl) ?_
      change wpAnyD _ _ _ _ _ _ _ _ _ _ W1.drew
      have HS : W1.drew.cell? ⟨w.heap.size, 0, none⟩ = some a ∧ W1.drew.cell? ⟨w.heap.size, 1, none⟩ = some b := ⟨by unfold World.cell?; rw [show W1.drew.heap[w.heap.size]? = _ from hg3.out]; rfl, by unfold World.cell?; rw [show W1.drew.heap[w.heap.size]? = _ from hg3.out]; rfl⟩
      simp only [List.size_toArray, List.length_cons, List.length_nil, Nat.reduceAdd, Array.replicate_succ, Array.replicate_zero, List.push_toArray, List.append_toArray, List.nil_append, List.cons_append]
      refine D_take (i := 1) (v := ?_) rfl (by kernel_rfl) (by kernel_rfl) (by kernel_rfl) (by kernel_rfl) (fun _ _ _ h => h) (Or.inl ⟨by rfl, ?_⟩) HS (fun _ => trivial) ?_
      rotate_left; · intro w1 hw1; obtain ⟨hw1, hw2⟩ := hw1; go_simp; try with_reducible rfl
      try simp only [Act.put, List.getElem_toArray, List.getElem_cons_zero, List.getElem_cons_succ, List.setIfInBounds_toArray, List.set_cons_zero, List.set_cons_succ]
      refine D_take (i := 2) (v := ?_) rfl (by kernel_rfl) (by kernel_rfl) (by kernel_rfl) (by kernel_rfl) (fun _ _ _ h => h) (Or.inl ⟨by rfl, ?_⟩) HS (fun _ => trivial) ?_
      rotate_left; · intro w1 hw1; obtain ⟨hw1, hw2⟩ := hw1; go_simp; try with_reducible rfl
      try simp only [Act.put, List.getElem_toArray, List.getElem_cons_zero, List.getElem_cons_succ, List.setIfInBounds_toArray, List.set_cons_zero, List.set_cons_succ]
      refine D_take (i := 4) (v := ?_) rfl (by kernel_rfl) (by kernel_rfl) (by kernel_rfl) (by kernel_rfl) (fun _ _ _ h => h) (Or.inl ⟨by rfl, ?_⟩) HS (fun _ => trivial) ?_
      rotate_left; · intro w1 hw1; obtain ⟨hw1, hw2⟩ := hw1; go_simp; try with_reducible rfl
      try simp only [Act.put, List.getElem_toArray, List.getElem_cons_zero, List.getElem_cons_succ, List.setIfInBounds_toArray, List.set_cons_zero, List.set_cons_succ]
      refine D_take (i := 5) (v := ?_) rfl (by kernel_rfl) (by kernel_rfl) (by kernel_rfl) (by kernel_rfl) (fun _ _ _ h => h) (Or.inl ⟨by rfl, ?_⟩) HS (fun _ => trivial) ?_
      rotate_left; · intro w1 hw1; obtain ⟨hw1, hw2⟩ := hw1; go_simp; try with_reducible rfl
      try simp only [Act.put, List.getElem_toArray, List.getElem_cons_zero, List.getElem_cons_succ, List.setIfInBounds_toArray, List.set_cons_zero, List.set_cons_succ]
      refine D_one (i := 0) (by kernel_rfl) rfl ?_
      intro K hK
      rw [if_pos (by rfl)]
      go_simp
      have hbe : Below W1.heap.size W1 (W1.alloc (.cells #[] 3)).drew := ((Below.refl _ _).alloc (Nat.le_refl _) _).drew
      have HSe := And.intro ((hbe.cell (p := ⟨w.heap.size, 0, none⟩) (lt_of_block hg3.out)).trans HS.1) ((hbe.cell (p := ⟨w.heap.size, 1, none⟩) (lt_of_block hg3.out)).trans HS.2)
      refine hK _ _ HSe (fun _ _ => trivial) ?_
      clear hK K
      try simp only [Act.put, List.getElem_toArray, List.getElem_cons_zero, List.getElem_cons_succ, List.setIfInBounds_toArray, List.set_cons_zero, List.set_cons_succ]
      have oe : Hid ((W1.alloc (.cells #[] 3)).drew.ownsRow W1.heap.size 3 1 (.slice (some ⟨W1.heap.size, 0, none⟩) 0 0) 0 []) := Lib.hid (own_below (World.ownsRow_made W1 #[] 0 (Nat.le_refl _) (by unfold maxLen; omega) rfl) ((Below.refl _ _).drew))
      refine D_one (i := 3) (by kernel_rfl) rfl ?_
      intro K hK
      refine step_append_rd (by rfl) _ _ (by rfl) W1.heap.size (.slice (some ⟨W1.heap.size, 0, none⟩) 0 0) a 0 [] r.by_ (by rfl) (by rfl) oe.out (hcl.out _ (Below.then_ hB2.out hbe)) (by omega) (by simp) ?_
      intro va W2 hO1 hgr _
      simp only [Nat.zero_add, List.nil_append] at hO1
      replace hO1 : OwnI W2 W1.drew.heap.size va r.by_ := hO1
      have hB3 : Below W1.drew.heap.size W1.drew W2 := (show Below W1.heap.size W1.drew (W1.alloc (.cells #[] 3)).drew from ⟨hbe.os, hbe.tape, hbe.output, hbe.size, hbe.block⟩).grown hgr (by simp) (fun q hq => (oe.out.lt q hq).1)
      clear hgr oe HSe hbe
      obtain ⟨A1, c1, rfl⟩ : ∃ A c, va = .slice A r.by_.length c := by have h := hO1; unfold OwnI at h; exact own_form h
      have hl1 : w.heap.size < W1.drew.heap.size := lt_of_block hg3.out
      have HS2 := And.intro ((hB3.cell (p := ⟨w.heap.size, 0, none⟩) hl1).trans HS.1) ((hB3.cell (p := ⟨w.heap.size, 1, none⟩) hl1).trans HS.2)
      have hB4 := Lib.hid (Below.then_ hB2.out.drew hB3)
      refine hK _ _ HS2 (fun _ _ => trivial) ?_
      clear hK K
      try simp only [List.setIfInBounds_toArray, List.set_cons_zero, List.set_cons_succ]
      refine D_one (i := 6) (by kernel_rfl) rfl ?_
      intro K hK
      rw [if_pos (by rfl)]
      go_wp2_with fail
      refine (hf.out W2 hB4.out).mono ?_; rintro e W3 ⟨⟨vb, rfl, hO2⟩, hB5⟩
      obtain ⟨A2, c2, rfl⟩ : ∃ A c, vb = .slice A (fromM r k).length c := by have h := hO2; unfold OwnI at h; exact own_form h
      have hl2 : w.heap.size < W2.heap.size := Nat.lt_of_lt_of_le hl1 hB3.size
      have hl3 : w.heap.size + 1 < W1.drew.heap.size := lt_of_block hg2.out
      have hl4 : w.heap.size + 1 < W2.heap.size := Nat.lt_of_lt_of_le hl3 hB3.size
      have HS3 := And.intro ((hB5.cell (p := ⟨w.heap.size, 0, none⟩) hl2).trans HS2.1) ((hB5.cell (p := ⟨w.heap.size, 1, none⟩) hl2).trans HS2.2)
      have hB6 := Lib.hid (Below.then_ hB4.out hB5)
      have hg4 := (hB5.block (w.heap.size + 1) hl4).trans ((hB3.block (w.heap.size + 1) hl3).trans hg2.out)
      have hO3 := Lib.hid (hO1.below hB5)
      replace hO2 := Lib.hid hO2
      have d0 : W3.cell? ⟨w.heap.size + 1, 0, none⟩ = some (.slice none 0 0) := by unfold World.cell?; rw [hg4]; rfl
      have d1 : W3.cell? ⟨w.heap.size + 1, 1, none⟩ = some (.slice none 0 0) := by unfold World.cell?; rw [hg4]; rfl
      have d2 : W3.frozen? ⟨w.heap.size + 1, 0, none⟩ = false := by unfold World.frozen?; rw [hg4]; rfl
      have d3 : W3.frozen? ⟨w.heap.size + 1, 1, none⟩ = false := by unfold World.frozen?; rw [hg4]; rfl
      refine hK _ _ HS3 (fun _ _ => trivial) ?_
      clear hK K
      try simp only [List.setIfInBounds_toArray, List.set_cons_zero, List.set_cons_succ]
      refine D_one (i := 7) (by kernel_rfl) rfl ?_
      intro K hK
      rw [if_pos (by rfl)]
      go_simp
      refine hK _ _ HS3 (fun _ _ => trivial) ?_
      clear hK K
      try simp only [List.setIfInBounds_toArray, List.set_cons_zero, List.set_cons_succ]
      refine D_one (i := 8) (by kernel_rfl) rfl ?_
      intro K hK
      rw [if_pos (by rfl)]
      go_simp
      have hne : w.heap.size ≠ w.heap.size + 1 := by omega
      have HS4 : ∀ x y, (((W3.setCell ⟨w.heap.size + 1, 0, none⟩ x).setCell ⟨w.heap.size + 1, 1, none⟩ y).cell? ⟨w.heap.size, 0, none⟩ = some a ∧ ((W3.setCell ⟨w.heap.size + 1, 0, none⟩ x).setCell ⟨w.heap.size + 1, 1, none⟩ y).cell? ⟨w.heap.size, 1, none⟩ = some b) := fun x y =>
        ⟨((World.cell?_of_block (Below.heap_setCell _ _ _ _ hne)).trans (World.cell?_of_block (Below.heap_setCell _ _ _ _ hne))).trans HS3.1, ((World.cell?_of_block (Below.heap_setCell _ _ _ _ hne)).trans (World.cell?_of_block (Below.heap_setCell _ _ _ _ hne))).trans HS3.2⟩
      refine hK _ _ (HS4 _ _) (fun _ _ => trivial) ?_
      clear hK K
      try simp only [List.setIfInBounds_toArray, List.set_cons_zero, List.set_cons_succ]
      refine D_one (i := 9) (by kernel_rfl) rfl ?_
      intro K hK
      rw [if_pos (by rfl)]
      go_simp
      refine hK _ _ (HS4 _ _) (fun _ _ => trivial) ?_
      clear hK K
      refine D_done (by kernel_rfl) ?_ _
      have hS5 : ∀ x y, Hid (Below w.heap.size w ((W3.setCell ⟨w.heap.size + 1, 0, none⟩ x).setCell ⟨w.heap.size + 1, 1, none⟩ y)) := fun x y => Lib.hid ((hB6.out.setCell (p := ⟨w.heap.size + 1, 0, none⟩) (by simp) _).setCell (p := ⟨w.heap.size + 1, 1, none⟩) (by simp) _)
      have hT1 : ∀ x y, OwnI ((W3.setCell ⟨w.heap.size + 1, 0, none⟩ x).setCell ⟨w.heap.size + 1, 1, none⟩ y) W1.drew.heap.size (.slice A1 r.by_.length c1) r.by_ := fun x y => own_of_block hO3.out (fun g hg => by
        have := (hO3.out.lt g hg).1
        rw [Below.heap_setCell _ _ _ _ (by show g ≠ w.heap.size + 1; omega), Below.heap_setCell _ _ _ _ (by show g ≠ w.heap.size + 1; omega)])
      have hT2 : ∀ x y, OwnI ((W3.setCell ⟨w.heap.size + 1, 0, none⟩ x).setCell ⟨w.heap.size + 1, 1, none⟩ y) W2.heap.size (.slice A2 (fromM r k).length c2) (fromM r k) := fun x y => own_of_block hO2.out (fun g hg => by
        have := (hO2.out.lt g hg).1
        rw [Below.heap_setCell _ _ _ _ (by show g ≠ w.heap.size + 1; omega), Below.heap_setCell _ _ _ _ (by show g ≠ w.heap.size + 1; omega)])
      have hsz1 : w.heap.size ≤ W1.drew.heap.size := Nat.le_of_lt hl1
      have hsz2 : w.heap.size ≤ W2.heap.size := Nat.le_of_lt hl2
      go_wp2
      refine bodyPost_ret (res_ct rfl _ _ (w.heap.size + 1) 49 #[.slice A1 r.by_.length c1, .slice A2 (fromM r k).length c2] (0, 0) _ rfl (heap_set2 _ _ hg4) rfl rfl rfl) rfl ?_
      rw [hr.out]
      exact ⟨_, rfl, ⟨_, _, rfl, (hT1 _ _).base hsz1, (hT2 _ _).base hsz2⟩, (hS5 _ _).out⟩
  · have hr : Hid (frR r n = (rightR r, ⟨[], []⟩)) := Lib.hid (by rw [frR, if_pos h0])
    have hne : (rightR r != 0) = true := by rw [bne_iff_ne]; exact h0
    have hca := Lib.hid (rightR_cases r)
    have hri := Lib.hid (fun W (hW : Below w.heap.size w W) => refRight_any r _ W (hR.out.below hW (Nat.le_refl _)))
    generalize rightR r = x at *
    clear hR h0
    go_enter Tryd.func81, Tryd.ntmps81
    go_wp2_with fail
    generalize (w.alloc (.cells #[a, b] 49)).alloc (.cells #[.slice none 0 0, .slice none 0 0] 49) = X at *
    refine (hri.out X hbx).mono ?_; rintro e W1 ⟨rfl, hB1⟩
    have hB2 := Below.then_ hbx hB1
    have hg2 := (hB1.block (w.heap.size + 1) (by omega)).trans hgb
    have d0 : W1.cell? ⟨w.heap.size + 1, 0, none⟩ = some (.slice none 0 0) := by unfold World.cell?; rw [hg2]; rfl
    have d1 : W1.cell? ⟨w.heap.size + 1, 1, none⟩ = some (.slice none 0 0) := by unfold World.cell?; rw [hg2]; rfl
    have d2 : W1.frozen? ⟨w.heap.size + 1, 0, none⟩ = false := by unfold World.frozen?; rw [hg2]; rfl
    have d3 : W1.frozen? ⟨w.heap.size + 1, 1, none⟩ = false := by unfold World.frozen?; rw [hg2]; rfl
    clear hga hgb hsz hbx
    go_wp2
    refine bodyPost_ret (res_ct rfl _ _ (w.heap.size + 1) 49 #[.slice none 0 0, .slice none 0 0] (0, 0) _ rfl (heap_set2 _ _ hg2) rfl rfl rfl) rfl ?_
    rw [hr.out]
    exact ⟨_, rfl, ⟨_, _, rfl, OwnI_nil _ _, OwnI_nil _ _⟩, (hB2.setCell (p := ⟨w.heap.size + 1, 0, none⟩) (by simp) _).setCell (p := ⟨w.heap.size + 1, 1, none⟩) (by simp) _⟩
end Go.Proofs.YtfljkcmijnhgkaaDoor

namespace Go.Proofs.YtfljkcmijnhgkaaDoor
open Go.RowKit Go.Shelf
set_option linter.unusedSimpArgs false

theorem termR_fr (r : Rule) (n : Int) : termR r n = if (frR r n).1 ≠ 0 ∨ (frR r n).2.start.length = 0 then (0, (frR r n).1) else ((frR r n).2.start.getD 0 0, 0) := by
  unfold termR frR
  by_cases h0 : rightR r ≠ 0
  · rw [if_pos h0, if_pos h0, if_pos (.inl h0)]
  · rw [if_neg h0, if_neg h0]
    by_cases h1 : n < 0
    · rw [if_pos h1, if_pos h1, if_pos (.inl (by decide))]
    · rw [if_neg h1, if_neg h1]
      by_cases h2 : (fromM r n.toNat).length = 0
      · rw [if_pos (.inr h2), List.length_eq_zero_iff.1 h2]; rfl
      · rw [if_neg (by simp only [ne_eq, not_true_eq_false, false_or]; exact h2)]
theorem frR_len (r : Rule) (n : Int) : (frR r n).2.start.length ≤ 12 ∧ (frR r n).2.by_.length ≤ 12 := by
  unfold frR
  by_cases h0 : rightR r ≠ 0
  · rw [if_pos h0]; exact ⟨by simp, by simp⟩
  · rw [if_neg h0]
    obtain ⟨o1, o2, o3, o4⟩ := rightR_ok (by simpa using h0)
    by_cases h1 : n < 0
    · rw [if_pos h1]; exact ⟨by simp, by simp⟩
    · rw [if_neg h1]
      refine ⟨?_, o1⟩
      show (fromM r n.toNat).length ≤ 12
      unfold fromM
      split
      · simp
      · have := (okM_prod (okM_powMat (by omega) (okM_comp o3) n.toNat) (o2 ▸ okM_col o4) (by omega)).1
        simp only [List.length_reverse, List.length_map]; omega
set_option maxRecDepth 100000 in
set_option maxHeartbeats 1600000 in
theorem refTerm_any (r : Rule) (n : Int) (v : Value) (w : World) (hn : n ≤ 9223372036854775807) (h : RdR w v r) :
    Calls Tryd.prog 80 #[v, .int .i64 n] w fun e w' => e = .returned (.tuple #[.int .i64 (termR r n).1, .int .i64 (termR r n).2]) ∧ Below w.heap.size w w' := by
  have hR := Lib.hid h
  obtain ⟨a, b, rfl, ra, rb⟩ := h
  have hbx : Below w.heap.size w (w.alloc (.cells #[a, b] 49)) := (Below.refl _ _).alloc (Nat.le_refl _) _
  have hg : (w.alloc (.cells #[a, b] 49)).heap[w.heap.size]? = some (.cells #[a, b] 49 (0, 0)) := heap_alloc_new _ _
  have hc0 : (w.alloc (.cells #[a, b] 49)).cell? ⟨w.heap.size, 0, none⟩ = some a := by unfold World.cell?; rw [hg]; rfl
  have hc1 : (w.alloc (.cells #[a, b] 49)).cell? ⟨w.heap.size, 1, none⟩ = some b := by unfold World.cell?; rw [hg]; rfl
  have hfr := Lib.hid (refFrom_any r n _ _ hn (hR.out.below hbx (Nat.le_refl _)))
  have htr := Lib.hid (termR_fr r n)
  have hlen := frR_len r n
  clear ra rb hg hR
  generalize frR r n = R at *
  obtain ⟨Re, R⟩ := R
  simp only [RuleErr] at hfr htr hlen
  by_cases h0 : Re = 0
  · by_cases h1 : R.start.length = 0
    all_goals
      go_enter Tryd.func80, Tryd.ntmps80
      go_wp2_with fail
      generalize w.alloc (.cells #[a, b] 49) = X at *
      refine hfr.out.mono ?_; rintro e W1 ⟨v1, rfl, ⟨a1, b1, rfl, oa, ob⟩, hB1⟩
      have hB2 := Lib.hid (Below.then_ hbx hB1)
      change OwnI _ _ _ R.by_ at oa
      change OwnI _ _ _ R.start at ob
      obtain ⟨A1, c1, rfl⟩ := own_shape oa
      have rb := ob.rd (by omega)
      obtain ⟨B1, d1, rfl, -, -, rb3⟩ := rb.open_
      first
      | (have hr : Hid (termR r n = (0, 0)) := Lib.hid (by rw [htr.out, if_pos (.inr h1), h0])
         clear oa ob rb rb3 htr
         rw [h1] at *
         subst h0
         go_wp2
         go_ret2
         exact ⟨by rw [hr.out]; rfl, by first | exact (hB2.out.alloc (hB2.out.size) _) | exact (((hB2.out.alloc (hB2.out.size) _).setCell (by exact hB2.out.size) _).setCell (by exact hB2.out.size) _)⟩)
      | (have hr : Hid (termR r n = (R.start.getD 0 0, 0)) := Lib.hid (by rw [htr.out, if_neg (by simp [h0, h1])])
         obtain ⟨bb, ob2, rfl, hcc⟩ := rb3 0 (by omega)
         rw [Nat.add_zero] at hcc
         have hcl := World.block_lt_of_cell? W1 _ hcc
         clear oa ob rb rb3 htr
         generalize R.start.getD 0 0 = x at *
         generalize R.start.length = L at *
         have l0 : (0 : Int) < (L : Int) := by omega
         have l1 : ((L : Int) == 0) = false := by rw [beq_eq_false_iff_ne]; omega
         subst h0
         go_wp2
         go_ret2
         exact ⟨by rw [hr.out]; rfl, by first | exact (hB2.out.alloc (hB2.out.size) _) | exact (((hB2.out.alloc (hB2.out.size) _).setCell (by exact hB2.out.size) _).setCell (by exact hB2.out.size) _)⟩)
  · have hr : Hid (termR r n = (0, Re)) := Lib.hid (by rw [htr.out, if_pos (.inl h0)])
    have hne : (Re != 0) = true := by rw [bne_iff_ne]; exact h0
    go_enter Tryd.func80, Tryd.ntmps80
    go_wp2_with fail
    generalize w.alloc (.cells #[a, b] 49) = X at *
    refine hfr.out.mono ?_; rintro e W1 ⟨v1, rfl, ⟨a1, b1, rfl, oa, ob⟩, hB1⟩
    have hB2 := Lib.hid (Below.then_ hbx hB1)
    obtain ⟨A1, c1, rfl⟩ := own_shape oa
    obtain ⟨A2, c2, rfl⟩ := own_shape ob
    clear oa ob htr
    go_wp2
    go_ret2
    exact ⟨by rw [hr.out]; rfl, by first | exact (hB2.out.alloc (hB2.out.size) _) | exact (((hB2.out.alloc (hB2.out.size) _).setCell (by exact hB2.out.size) _).setCell (by exact hB2.out.size) _)⟩
end Go.Proofs.YtfljkcmijnhgkaaDoor
