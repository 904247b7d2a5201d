/- The reference's reduce: its contract. Append of what reads as numbers. The reference's Solution: its contract. -/
import Derived.Test.YtfljkcmijnhgkaaDoorKo
import Derived.Test.YtfljkcmijnhgkaaDoorKd
import Derived.Test.YtfljkcmijnhgkaaDoorKf
import Derived.Test.YtfljkcmijnhgkaaDoorKq
import Derived.Test.YtfljkcmijnhgkaaDoorKi
import Derived.Deep.AppendLies
import Derived.Deep.RegionHeld3
namespace Go.Proofs.YtfljkcmijnhgkaaDoor
open Go.RowKit
set_option linter.unusedSimpArgs false

theorem OwnMv.same {w : World} {base g n c i : Nat} {rs : List (List Int)} {vs : List Value} {u : Value} (h : OwnMv w base (.slice (some ⟨g, 0, none⟩) n c) rs vs) (hu : vs[i]? = some u) : OwnMv (w.setCell ⟨g, i, none⟩ u) base (.slice (some ⟨g, 0, none⟩) n c) rs vs := by
  obtain rfl : rs.length = n := by
    rcases h.outer.2 with ⟨e, _⟩ | ⟨_, _, _, e, _⟩
    · simp at e
    · simp only [Value.slice.injEq] at e; exact e.2.1.symm
  obtain ⟨h1, g1⟩ := h.outer.stored i u
  rw [list_set_same hu] at h1
  exact ⟨h1, fun j r x hr hx => OwnI.base (World.ownsRow.kept (h.rows j r x hr hx) g1 (own_ne (h.rows j r x hr hx) h.outer (by decide))) (Nat.le_refl _), h.apart⟩
/-- Two rows change their places; the same row, perhaps. -/
theorem swap_both {w : World} {base g n c a L : Nat} {rs : List (List Int)} {vs : List Value} {ua uL : Value} (h : OwnMv w base (.slice (some ⟨g, 0, none⟩) n c) rs vs) (ha : a < rs.length) (hL : L < rs.length) (hx : vs[a]? = some ua) (hu : vs[L]? = some uL) :
    ∃ vs', OwnMv ((w.setCell ⟨g, L, none⟩ ua).setCell ⟨g, a, none⟩ uL) base (.slice (some ⟨g, 0, none⟩) n c) (swapM rs a L) vs' ∧ vs'[L]? = some ua ∧ ∀ y ∈ vs', y ∈ vs := by
  have ra : rs[a]? = some (rs.getD a []) := by rw [List.getD_eq_getElem?_getD, List.getElem?_eq_getElem ha]; rfl
  have rL : rs[L]? = some (rs.getD L []) := by rw [List.getD_eq_getElem?_getD, List.getElem?_eq_getElem hL]; rfl
  have hl := h.len
  by_cases e : a = L
  · subst e
    rw [hx] at hu
    cases hu
    rw [swap_self]
    exact ⟨vs, (h.same hx).same hx, hx, fun y hy => hy⟩
  · refine ⟨(vs.set L ua).set a uL, ?_, ?_, ?_⟩
    · have := h.swap rfl rL ra hu hx (Ne.symm e)
      rw [show swapM rs a L = (rs.set L (rs.getD a [])).set a (rs.getD L []) from by rw [swapM, List.set_comm _ _ e]]
      exact this
    · rw [List.getElem?_set_ne e, List.getElem?_set_self (by omega)]
    · intro y hy
      rcases List.mem_or_eq_of_mem_set hy with hy | rfl
      · rcases List.mem_or_eq_of_mem_set hy with hy | rfl
        · exact hy
        · exact List.mem_of_getElem? hx
      · exact List.mem_of_getElem? hu
/-- The state between two columns. -/
structure RInv (w wr : World) (base : Nat) (v p : Value) (s : Sys) (n m : Nat) : Prop where
  ok : okM s.rows n m
  few : s.piv.length ≤ n
  mem : ∃ vs, OwnMv wr base v s.rows vs ∧ ∀ u ∈ vs, ∀ g, u.ownBlock = some g → g < w.heap.size
  piv : OwnI wr w.heap.size p (natI (s.piv.map (·.2)))
  below : Below base w wr
def pivK (s : Sys) : List Nat := s.piv.map (·.2)
/-- So many columns, the last first, are done down to q. -/
def redS (rs : List (List Int)) (cols q : Nat) : Sys := solveS rs ((List.range cols).reverse.take (cols - q)) false
theorem redS_step (rs : List (List Int)) {cols k : Nat} (hk : k < cols) : redS rs cols k = stepS (redS rs cols (k + 1)) k := by
  unfold redS solveS
  rw [show cols - k = (cols - (k + 1)) + 1 by omega, List.take_add_one, List.getElem?_reverse (by simp; omega), List.foldl_append]
  have : (List.range cols)[(List.range cols).length - 1 - (cols - (k + 1))]? = some k := by
    rw [List.length_range, List.getElem?_range (by omega)]; congr 1; omega
  rw [this]; rfl
theorem redS_end (rs : List (List Int)) (cols : Nat) : redS rs cols 0 = solveS rs (List.range cols).reverse false := by
  unfold redS; rw [List.take_of_length_le (by simp)]
/-- Where the first row without 0 from j on stands, among those looked at. -/
def seen (rs : List (List Int)) (k n j : Nat) (z : Int) : Prop := (z = -1 ∧ ∀ x, j ≤ x → x < n → gM rs x k = 0) ∨ ∃ a : Nat, z = a ∧ j ≤ a ∧ a < n ∧ gM rs a k ≠ 0 ∧ ∀ x, j ≤ x → x < a → gM rs x k = 0
/-- What a round that has found its pivot leaves. -/
theorem reduce_fin {w wr w1 : World} {base n m a j k : Nat} {v p v' : Value} {s : Sys} {vs1 : List Value} (hok : okM s.rows n m) (hL : s.piv.length = j) (hjn : j < n) (ha : a < n)
    (hO : OwnMv wr base v (clearM (swapM s.rows a j) j k) vs1) (hlo : ∀ u ∈ vs1, ∀ g, u.ownBlock = some g → g < w.heap.size) (hp : OwnI wr w.heap.size p (natI (s.piv.map (·.2)))) (hB : Below base w wr) (hbw : base ≤ w.heap.size)
    (hown : w1.ownsRow w.heap.size 3 1 v' (j + 1) (ints (natI (s.piv.map (·.2))) ++ [.int .i64 k])) (hg : (wr.alloc (.cells #[.int .i64 k] 3)).grownBy w1 p.ownBlock) : RInv w w1 base v v' (pivS s k a) n m := by
  have hb1 : Below wr.heap.size wr (wr.alloc (.cells #[.int .i64 k] 3)) := (Below.refl _ _).alloc (Nat.le_refl _) _
  have hsz := hB.size
  refine ⟨okM_clear (okM_swap hok ha (by rw [hL]; exact hjn)) (by rw [hL]; exact hjn), by simp only [pivS, List.length_append, List.length_singleton]; omega, ⟨vs1, ?_, hlo⟩, ?_, ?_⟩
  · simp only [pivS, hL]
    refine (hO.kept hb1).grownBy hg (own_ne hO.outer hp (by decide)) (fun u hu => ?_)
    by_cases hu0 : u.ownBlock = none
    · exact .inl hu0
    · obtain ⟨g, hg2⟩ := Option.ne_none_iff_exists'.1 hu0
      refine .inr fun e => ?_
      have h1 := hlo u hu g hg2
      have h2 := (World.ownsRow.lt hp g (by rw [← e]; exact hg2)).1
      omega
  · simp only [pivS, hL, List.map_append, List.map_cons, List.map_nil]
    unfold OwnI
    rw [show natI (s.piv.map (·.2) ++ [k]) = natI (s.piv.map (·.2)) ++ [(k : Int)] from by simp [natI], ints_append, List.length_append, show (natI (s.piv.map (·.2))).length = j from by simp [natI, hL]]
    exact hown
  · exact (hB.alloc (by omega) _).grown hg (by simp; omega) (fun q hq => by have := (World.ownsRow.lt hp q hq).1; omega)
set_option maxRecDepth 100000 in
set_option maxHeartbeats 6400000 in
theorem reduce_any (rs : List (List Int)) (n m cols base : Nat) (v : Value) (vs : List Value) (w : World) (h : OwnMv w base v rs vs) (hok : okM rs n m) (hn : n ≤ 1000) (hm : m ≤ 1000) (hc : cols ≤ m) (hbw : base ≤ w.heap.size) :
    Calls Tryd.prog 120 #[v, .int .i64 cols] w fun e w' => ∃ p, e = .returned p ∧ RInv w w' base v p (solveS rs (List.range cols).reverse false) n m := by
  obtain ⟨i0, hi, hz0, hz1, hz2⟩ := info_parts infoI
  obtain ⟨A, c, rfl⟩ := own_shape h.outer
  rw [hok.1] at h ⊢
  have h0 : RInv w w base (.slice A n c) (.slice none 0 0) (redS rs cols cols) n m := by
    have e : redS rs cols cols = ⟨rs, [], 1, false⟩ := by unfold redS; rw [Nat.sub_self]; rfl
    rw [e]
    exact ⟨hok, Nat.zero_le _, ⟨vs, by simpa using h, fun u hu g hg => (h.ge u hu g hg).2⟩, OwnI_nil _ _, Below.refl _ _⟩
  replace h0 := Lib.hid h0
  clear h hok
  go_enter Tryd.func120, Tryd.ntmps120
  go_wp2
  go_loopw [5, 6, 7, 8, 9, 10, 11, 12, 13, 14] (fun p cc _ _ _ _ _ _ _ _ wr => ∃ (q : Nat) (c' : Int), q ≤ cols ∧ c' = (q : Int) - 1 ∧ cc = .int .i64 c' ∧ Hid (RInv w wr base (.slice A n c) p (redS rs cols q) n m)) (fun _ cc _ _ _ _ _ _ _ _ _ => (intOf cc + 1).toNat)
  case atStart => exact ⟨cols, _, Nat.le_refl _, rfl, rfl, h0⟩
  case round =>
    obtain ⟨q, c', hq, hc', rfl, hI⟩ := hrel
    cases q with
    | zero =>
      have : c' = -1 := by omega
      subst this
      clear hc'
      go_wp2
      go_ret
      exact ⟨_, rfl, by rw [← redS_end]; exact hI.out⟩
    | succ k =>
      obtain rfl : c' = (k : Int) := by omega
      clear hc'
      have hst := Lib.hid (redS_step rs (cols := cols) (k := k) (by omega))
      generalize hS : redS rs cols (k + 1) = s at hst hI
      clear hS
      obtain ⟨vs, hO, hlo⟩ := hI.out.mem
      obtain ⟨Ap, cp, rfl⟩ := own_shape hI.out.piv
      have hpl : (natI (s.piv.map (·.2))).length = s.piv.length := by simp [natI]
      rw [hpl] at hI ⊢
      have hpv := Lib.hid hI.out.piv
      have hok := Lib.hid hI.out.ok
      have hfew := hI.out.few
      have hB := Lib.hid hI.out.below
      generalize hL : s.piv.length = L at *
      replace hL := Lib.hid hL
      replace hpl := Lib.hid hpl
      have hvl : vs.length = n := by rw [hO.len, hok.out.1]
      have k0 : (0 : Int) ≤ (k : Int) := by omega
      have hkm : k < m := by omega
      replace hO := Lib.hid hO
      replace hlo := Lib.hid hlo
      -- the rows' own words
      have hrow : Hid (∀ x, x < n → ∃ g gx cx, A = some ⟨g, 0, none⟩ ∧ base ≤ g ∧ vs[x]? = some (.slice (some ⟨gx, 0, none⟩) m cx) ∧ wr.cell? ⟨g, x, none⟩ = some (.slice (some ⟨gx, 0, none⟩) m cx) ∧ wr.frozen? ⟨g, x, none⟩ = false ∧ wr.cell? ⟨gx, k, none⟩ = some (.int .i64 (gM s.rows x k))) := Lib.hid (fun x hx => by
        have hr : s.rows[x]? = some (s.rows.getD x []) := by rw [List.getD_eq_getElem?_getD, List.getElem?_eq_getElem (by rw [hok.out.1]; exact hx)]; rfl
        have hu : vs[x]? = some vs[x] := List.getElem?_eq_getElem (by omega)
        obtain ⟨g, c1, e, hb, -, hcell, hf⟩ := hO.out.at_ hr hu
        obtain ⟨gx, cx, e2, -, -, hc2, -⟩ := hO.out.num hr hu (k := k) (by rw [hok.out.row hx]; exact hkm)
        simp only [Value.slice.injEq] at e
        obtain ⟨rfl, -, -⟩ := e
        rw [hok.out.row hx] at e2
        rw [e2] at hu hcell
        exact ⟨g, gx, cx, rfl, hb, hu, hcell, hf, hc2⟩)
      go_wp2
      go_loop [7, 8] (fun at_ ii => ∃ (j : Nat) (c' z : Int), L ≤ j ∧ j ≤ n ∧ c' = (j : Int) - 1 ∧ ii = .int .i64 c' ∧ at_ = .int .i64 z ∧ Hid (seen s.rows k n j z) ∧ -1 ≤ z ∧ z < n) (fun _ ii => (intOf ii + 1).toNat)
      case atStart => exact ⟨n, _, -1, by omega, Nat.le_refl _, rfl, rfl, rfl, Lib.hid (.inl ⟨rfl, fun x h1 h2 => by omega⟩), by omega, by omega⟩
      case round =>
        obtain ⟨j, c', z, hj1, hj2, hc', rfl, rfl, hz, hzl, hzn⟩ := hrel
        by_cases hjL : L < j
        · obtain ⟨x, rfl⟩ : ∃ x, j = x + 1 := ⟨j - 1, by omega⟩
          obtain rfl : c' = (x : Int) := by omega
          obtain ⟨g, gx, cx, eA, -, -, hcg, -, hcx⟩ := hrow.out x (by omega)
          subst eA
          have x1 : (x : Int) < (n : Int) := by omega
          have x0 : (0 : Int) ≤ (x : Int) := by omega
          have xL : (L : Int) ≤ (x : Int) := by omega
          have km : (k : Int) < (m : Int) := by omega
          clear hc'
          by_cases hg : gM s.rows x k = 0
          · have hz2 : Hid (seen s.rows k n x z) := Lib.hid (by
              rcases hz.out with ⟨e, h2⟩ | ⟨a, e, h1, h2, h3, h4⟩
              · exact .inl ⟨e, fun y h3 h4 => by
                  by_cases e2 : y = x
                  · rw [e2]; exact hg
                  · exact h2 y (by omega) h4⟩
              · exact .inr ⟨a, e, by omega, h2, h3, fun y h5 h6 => by
                  by_cases e2 : y = x
                  · rw [e2]; exact hg
                  · exact h4 y (by omega) h6⟩)
            rw [hg] at hcx
            replace hg := Lib.hid hg
            go_wp2
            go_round
            case rel => exact ⟨x, _, z, by omega, by omega, rfl, by go_num, rfl, hz2, hzl, hzn⟩
            case measure => simp [intOf] <;> omega
          · have hz2 : Hid (seen s.rows k n x x) := Lib.hid (.inr ⟨x, rfl, Nat.le_refl _, by omega, hg, fun y h5 h6 => by omega⟩)
            have hne : (gM s.rows x k != 0) = true := by rw [bne_iff_ne]; exact hg
            replace hg := Lib.hid hg
            generalize gM s.rows x k = y at hcx hne
            go_wp2
            go_round
            case rel => exact ⟨x, _, x, by omega, by omega, rfl, by go_num, rfl, hz2, by omega, by omega⟩
            case measure => simp [intOf] <;> omega
        · obtain rfl : j = L := by omega
          have hcl : ¬ (j : Int) ≤ c' := by omega
          rcases hz.out with ⟨rfl, hzz⟩ | ⟨a, rfl, ha1, ha2, ha3, ha4⟩
          · have hfp : Hid (redS rs cols k = s) := Lib.hid (by rw [hst.out, stepS, hok.out.1, hL.out, findP_none (fun x h1 h2 => hzz x h1 (by omega))])
            replace hzz := Lib.hid hzz
            clear hc'
            go_wp2
            go_roundw
            case rel => exact ⟨k, _, by omega, rfl, by go_num, by rw [hfp.out]; exact hI⟩
            case measure => simp [intOf] <;> omega
          · have hfp : Hid (redS rs cols k = pivS s k a) := Lib.hid (by rw [hst.out, stepS, hok.out.1, hL.out, findP_some ha1 (by omega) ha4 ha3])
            obtain ⟨g, ga, ca, eA, hgb, hva, hca, hfa, -⟩ := hrow.out a ha2
            obtain ⟨g2, gL, cL, eA2, -, hvL, hcL, hfL, -⟩ := hrow.out j (by omega)
            subst eA
            simp only [Option.some.injEq, Addr.mk.injEq, and_true] at eA2
            subst eA2
            replace ha3 := Lib.hid ha3
            replace ha4 := Lib.hid ha4
            have hjn : j < n := by omega
            have a1 : (a : Int) < (n : Int) := by omega
            have a0 : (0 : Int) ≤ (a : Int) := by omega
            have j1 : (j : Int) < (n : Int) := by omega
            have j0 : (0 : Int) ≤ (j : Int) := by omega
            obtain ⟨vs1, hO1, hvj, hsub⟩ := swap_both (hO.out.kept (Below.refl wr.heap.size wr).drew) (by rw [hok.out.1]; exact ha2) (by rw [hok.out.1]; exact hjn) hva hvL
            have hO1 : OwnMv ((wr.setCell ⟨g, j, none⟩ (.slice (some ⟨ga, 0, none⟩) m ca)).drew.setCell ⟨g, a, none⟩ (.slice (some ⟨gL, 0, none⟩) m cL)) base (.slice (some ⟨g, 0, none⟩) n c) (swapM s.rows a j) vs1 := hO1
            have hlo1 : Hid (∀ u ∈ vs1, ∀ g, u.ownBlock = some g → g < w.heap.size) := Lib.hid (fun u hu => hlo.out u (hsub u hu))
            have hpn := own_ne hpv.out hO.out.outer (by decide)
            have hgr : wr.grownBy ((wr.setCell ⟨g, j, none⟩ (.slice (some ⟨ga, 0, none⟩) m ca)).drew.setCell ⟨g, a, none⟩ (.slice (some ⟨gL, 0, none⟩) m cL)) (some g) :=
              ⟨rfl, rfl, rfl, by simp, fun q _ hq => (Below.heap_setCell _ _ _ _ (fun e => hq (by rw [e]))).trans (Below.heap_setCell _ _ _ _ (fun e => hq (by rw [e])))⟩
            have hpX := Lib.hid (World.ownsRow.kept hpv.out hgr hpn)
            have hBX : Hid (Below base w ((wr.setCell ⟨g, j, none⟩ (.slice (some ⟨ga, 0, none⟩) m ca)).drew.setCell ⟨g, a, none⟩ (.slice (some ⟨gL, 0, none⟩) m cL))) := Lib.hid ((hB.out.drew.setCell (p := ⟨g, j, none⟩) hgb (.slice (some ⟨ga, 0, none⟩) m ca)).setCell (p := ⟨g, a, none⟩) hgb (.slice (some ⟨gL, 0, none⟩) m cL))
            obtain ⟨y, hy⟩ : ∃ y, (wr.setCell ⟨g, j, none⟩ (.slice (some ⟨ga, 0, none⟩) m ca)).drew.cell? ⟨g, a, none⟩ = some y := by
              have h1 := World.isSome_setCells g [Value.slice (some ⟨ga, 0, none⟩) m ca] j wr.drew ⟨g, a, none⟩ (by rw [show wr.drew.cell? ⟨g, a, none⟩ = _ from hca]; rfl)
              exact Option.isSome_iff_exists.1 h1
            have hfy : (wr.setCell ⟨g, j, none⟩ (.slice (some ⟨ga, 0, none⟩) m ca)).drew.frozen? ⟨g, a, none⟩ = false := (World.frozen?_setCells g [Value.slice (some ⟨ga, 0, none⟩) m ca] j wr.drew ⟨g, a, none⟩).trans hfa
            replace hO1 := Lib.hid hO1
            replace hvj := Lib.hid hvj
            clear hva hvL hsub hpn hgr hI hpv hO hlo hB hz hc'
            go_wp2
            refine D_begin (fun _ => True) (fun w' => w'.cell? ⟨g, a, none⟩ = some (.slice (some ⟨ga, 0, none⟩) m ca) ∧ w'.cell? ⟨g, j, none⟩ = some (.slice (some ⟨gL, 0, none⟩) m cL)) 13 (by kernel_rfl) ?_
            change wpAnyD _ _ _ _ _ _ _ _ _ _ wr.drew
            simp only [List.size_toArray, List.length_cons, List.length_nil, Nat.reduceAdd, Array.replicate_succ, Array.replicate_zero, List.push_toArray, List.append_toArray, List.nil_append, List.cons_append]
            have HT : wr.drew.cell? ⟨g, a, none⟩ = some (.slice (some ⟨ga, 0, none⟩) m ca) ∧ wr.drew.cell? ⟨g, j, none⟩ = some (.slice (some ⟨gL, 0, none⟩) m cL) := ⟨hca, hcL⟩
            refine D_take (i := 0) (v := ?_) rfl (by kernel_rfl) (by kernel_rfl) (by kernel_rfl) (by kernel_rfl) (fun _ _ _ h => h) (Or.inl ⟨by rfl, ?_⟩) trivial (fun _ => HT) ?_
            rotate_left; · intro w1 hw1; go_simp; try with_reducible rfl
            try simp only [Act.put, List.getElem_toArray, List.getElem_cons_zero, List.getElem_cons_succ, List.setIfInBounds_toArray, List.set_cons_zero, List.set_cons_succ]
            refine D_take (i := 1) (v := ?_) rfl (by kernel_rfl) (by kernel_rfl) (by kernel_rfl) (by kernel_rfl) (fun _ _ _ h => h) (Or.inl ⟨by rfl, ?_⟩) trivial (fun _ => HT) ?_
            rotate_left; · intro w1 hw1; go_simp; try with_reducible rfl
            try simp only [Act.put, List.getElem_toArray, List.getElem_cons_zero, List.getElem_cons_succ, List.setIfInBounds_toArray, List.set_cons_zero, List.set_cons_succ]
            refine D_take (i := 2) (v := ?_) rfl (by kernel_rfl) (by kernel_rfl) (by kernel_rfl) (by kernel_rfl) (fun _ _ _ h => h) (Or.inl ⟨by rfl, ?_⟩) trivial (fun _ => HT) ?_
            rotate_left; · intro w1 hw1; go_simp; try with_reducible rfl
            try simp only [Act.put, List.getElem_toArray, List.getElem_cons_zero, List.getElem_cons_succ, List.setIfInBounds_toArray, List.set_cons_zero, List.set_cons_succ]
            refine D_take (i := 3) (v := ?_) rfl (by kernel_rfl) (by kernel_rfl) (by kernel_rfl) (by kernel_rfl) (fun _ _ _ h => h) (Or.inl ⟨by rfl, ?_⟩) trivial (fun _ => HT) ?_
            rotate_left; · intro w1 hw1; go_simp; try with_reducible rfl
            try simp only [Act.put, List.getElem_toArray, List.getElem_cons_zero, List.getElem_cons_succ, List.setIfInBounds_toArray, List.set_cons_zero, List.set_cons_succ]
            refine D_take (i := 4) (v := ?_) rfl (by kernel_rfl) (by kernel_rfl) (by kernel_rfl) (by kernel_rfl) (fun _ _ _ h => h) (Or.inl ⟨by rfl, ?_⟩) trivial (fun _ => HT) ?_
            rotate_left; · intro w1 hw1; go_simp; try with_reducible rfl
            try simp only [Act.put, List.getElem_toArray, List.getElem_cons_zero, List.getElem_cons_succ, List.setIfInBounds_toArray, List.set_cons_zero, List.set_cons_succ]
            refine D_take (i := 5) (v := ?_) rfl (by kernel_rfl) (by kernel_rfl) (by kernel_rfl) (by kernel_rfl) (fun _ _ _ h => h) (Or.inl ⟨by rfl, ?_⟩) trivial (fun _ => HT) ?_
            rotate_left; · intro w1 hw1; go_simp; try with_reducible rfl
            try simp only [Act.put, List.getElem_toArray, List.getElem_cons_zero, List.getElem_cons_succ, List.setIfInBounds_toArray, List.set_cons_zero, List.set_cons_succ]
            refine D_take (i := 6) (v := ?_) rfl (by kernel_rfl) (by kernel_rfl) (by kernel_rfl) (by kernel_rfl) (fun _ _ _ h => h) (Or.inl ⟨by rfl, ?_⟩) trivial (fun _ => HT) ?_
            rotate_left; · intro w1 hw1; go_simp; try with_reducible rfl
            try simp only [Act.put, List.getElem_toArray, List.getElem_cons_zero, List.getElem_cons_succ, List.setIfInBounds_toArray, List.set_cons_zero, List.set_cons_succ]
            refine D_take (i := 8) (v := ?_) rfl (by kernel_rfl) (by kernel_rfl) (by kernel_rfl) (by kernel_rfl) (fun _ _ _ h => h) (Or.inl ⟨by rfl, ?_⟩) trivial (fun _ => HT) ?_
            rotate_left; · intro w1 hw1; go_simp; try with_reducible rfl
            try simp only [Act.put, List.getElem_toArray, List.getElem_cons_zero, List.getElem_cons_succ, List.setIfInBounds_toArray, List.set_cons_zero, List.set_cons_succ]
            refine D_take (i := 9) (v := ?_) rfl (by kernel_rfl) (by kernel_rfl) (by kernel_rfl) (by kernel_rfl) (fun _ _ _ h => h) (Or.inl ⟨by rfl, ?_⟩) trivial (fun _ => HT) ?_
            rotate_left; · intro w1 hw1; go_simp; try with_reducible rfl
            try simp only [Act.put, List.getElem_toArray, List.getElem_cons_zero, List.getElem_cons_succ, List.setIfInBounds_toArray, List.set_cons_zero, List.set_cons_succ]
            refine D_take (i := 10) (v := ?_) rfl (by kernel_rfl) (by kernel_rfl) (by kernel_rfl) (by kernel_rfl) (fun _ _ _ h => h) (Or.inl ⟨by rfl, ?_⟩) trivial (fun _ => HT) ?_
            rotate_left; · intro w1 hw1; go_simp; try with_reducible rfl
            try simp only [Act.put, List.getElem_toArray, List.getElem_cons_zero, List.getElem_cons_succ, List.setIfInBounds_toArray, List.set_cons_zero, List.set_cons_succ]
            refine D_load (i := 7) (v := ?_) rfl (by kernel_rfl) (by kernel_rfl) (by kernel_rfl) (by kernel_rfl) (by kernel_rfl) (by kernel_rfl) (fun _ _ _ h => h) (Or.inl ⟨by rfl, ?_⟩) trivial HT ?_
            rotate_left; · intro w1 hw1; obtain ⟨-, hw3, hw4⟩ := hw1; go_simp; try with_reducible rfl
            try simp only [Act.put, List.getElem_toArray, List.getElem_cons_zero, List.getElem_cons_succ, List.setIfInBounds_toArray, List.set_cons_zero, List.set_cons_succ]
            refine D_load (i := 11) (v := ?_) rfl (by kernel_rfl) (by kernel_rfl) (by kernel_rfl) (by kernel_rfl) (by kernel_rfl) (by kernel_rfl) (fun _ _ _ h => h) (Or.inl ⟨by rfl, ?_⟩) trivial HT ?_
            rotate_left; · intro w1 hw1; obtain ⟨-, hw3, hw4⟩ := hw1; go_simp; try with_reducible rfl
            try simp only [Act.put, List.getElem_toArray, List.getElem_cons_zero, List.getElem_cons_succ, List.setIfInBounds_toArray, List.set_cons_zero, List.set_cons_succ]
            refine D_take (i := 12) (v := ?_) rfl (by kernel_rfl) (by kernel_rfl) (by kernel_rfl) (by kernel_rfl) (fun _ _ _ h => h) (Or.inl ⟨by rfl, ?_⟩) trivial (fun _ => HT) ?_
            rotate_left; · intro w1 hw1; go_simp; try with_reducible rfl
            try simp only [Act.put, List.getElem_toArray, List.getElem_cons_zero, List.getElem_cons_succ, List.setIfInBounds_toArray, List.set_cons_zero, List.set_cons_succ]
            have HT2 := HT.2
            have hfL2 : wr.drew.frozen? ⟨g, j, none⟩ = false := hfL
            refine D_one (i := 13) (by kernel_rfl) rfl ?_
            intro K hK
            rw [if_pos (by rfl)]
            go_simp
            refine hK _ _ trivial (fun h => absurd rfl h) ?_
            try simp only [Act.put, List.getElem_toArray, List.getElem_cons_zero, List.getElem_cons_succ, List.setIfInBounds_toArray, List.set_cons_zero, List.set_cons_succ]
            clear hK K HT HT2 hfL2
            generalize hX1 : (wr.setCell ⟨g, j, none⟩ (.slice (some ⟨ga, 0, none⟩) m ca)).drew = X1 at hO1 hpX hBX hy hfy ⊢
            clear hX1
            refine D_take (i := 14) (v := ?_) rfl (by kernel_rfl) (by kernel_rfl) (by kernel_rfl) (by kernel_rfl) (fun _ _ _ h => h) (Or.inl ⟨by rfl, ?_⟩) trivial (fun h => absurd h (by decide)) ?_
            rotate_left; · intro w1 hw1; go_simp; try with_reducible rfl
            try simp only [Act.put, List.getElem_toArray, List.getElem_cons_zero, List.getElem_cons_succ, List.setIfInBounds_toArray, List.set_cons_zero, List.set_cons_succ]
            refine D_one (i := 15) (by kernel_rfl) rfl ?_
            intro K hK
            rw [if_pos (by rfl)]
            go_simp
            refine hK _ _ trivial (fun _ h => absurd h (by decide)) ?_
            try simp only [Act.put, List.getElem_toArray, List.getElem_cons_zero, List.getElem_cons_succ, List.setIfInBounds_toArray, List.set_cons_zero, List.set_cons_succ]
            clear hK K
            refine D_done (by kernel_rfl) ?_ _
            generalize hX2 : X1.setCell ⟨g, a, none⟩ (.slice (some ⟨gL, 0, none⟩) m cL) = X at hO1 hpX hBX ⊢
            clear hX2 hy hfy hca hfa hcL hfL hrow
            have hgm : Hid (gM (swapM s.rows a j) j k = gM s.rows a k) := Lib.hid (by unfold gM; rw [swap_row (by rw [hok.out.1]; exact hjn)])
            have hokR := Lib.hid (okM_swap hok.out ha2 hjn)
            have hR := Lib.hid (rfl : swapM s.rows a j = swapM s.rows a j)
            generalize hRe : swapM s.rows a j = R at hO1 hokR hR
            replace hRe := Lib.hid hRe
            clear hR hgm
            have hrj : Hid (R[j]? = some (R.getD j [])) := Lib.hid (by rw [List.getD_eq_getElem?_getD, List.getElem?_eq_getElem (by rw [hokR.out.1]; exact hjn)]; rfl)
            have hlen : Hid ((R.getD j []).length = m) := Lib.hid (hokR.out.row hjn)
            have hnum := hokR.out.num j k
            obtain ⟨g3, c3, e3, -, -, hcj, -⟩ := hO1.out.at_ hrj.out hvj.out
            simp only [Value.slice.injEq, Option.some.injEq, Addr.mk.injEq, and_true] at e3
            obtain ⟨rfl, -, -⟩ := e3
            obtain ⟨g3, c3, e3, -, -, hcjk, -⟩ := hO1.out.num hrj.out hvj.out (k := k) (by rw [hlen.out]; exact hkm)
            simp only [Value.slice.injEq, Option.some.injEq, Addr.mk.injEq, and_true] at e3
            obtain ⟨rfl, -, -⟩ := e3
            change X.cell? _ = some (.int .i64 (gM R j k)) at hcjk
            have km : (k : Int) < (m : Int) := by omega
            go_wp2_with fail
            refine (refInv_any _ _ hnum.1 hnum.2).mono ?_; rintro e W' ⟨rfl, rfl⟩
            have hib := invN_bd (gM R j k)
            have hown : Hid (ownR R j k = scaleR (R.getD j []) (invN (gM R j k))) := Lib.hid rfl
            generalize invN (gM R j k) = iv at hib hown ⊢
            clear hcj hcjk hnum
            go_wp2
            go_loopw [11] (fun ii wr => ∃ q : Nat, q ≤ m ∧ ii = .int .i64 q ∧ Hid (KeptBut vs1 X wr) ∧ Hid (OwnMv wr base (.slice (some ⟨g, 0, none⟩) n c) (R.set j (scP (R.getD j []) iv q)) vs1)) (fun ii _ => m - (intOf ii).toNat)
            case atStart => exact ⟨0, Nat.zero_le _, rfl, Lib.hid (KeptBut.refl _ _), Lib.hid (by rw [scP_zero, list_set_same hrj.out]; exact hO1.out)⟩
            case round =>
              obtain ⟨q, hq2, rfl, hK, hO⟩ := hrel
              have hrr : (R.set j (scP (R.getD j []) iv q))[j]? = some (scP (R.getD j []) iv q) := by rw [List.getElem?_set_self (by rw [hokR.out.1]; exact hjn)]
              obtain ⟨g3, c3, e3, -, -, hcj, -⟩ := hO.out.at_ hrr hvj.out
              simp only [Value.slice.injEq, Option.some.injEq, Addr.mk.injEq, and_true] at e3
              obtain ⟨rfl, -, -⟩ := e3
              by_cases hlt : q < m
              · obtain ⟨g', c'', e, _, hlt1, hc1, hf1⟩ := hO.out.num hrr hvj.out (k := q) (by rw [scP_len, hlen.out]; exact hlt)
                rw [scP_len, hlen.out] at e
                simp only [Value.slice.injEq, Option.some.injEq, Addr.mk.injEq, and_true, true_and] at e
                obtain ⟨rfl, rfl⟩ := e
                rw [scP_get _ _ (by rw [hlen.out]; exact hlt)] at hc1
                rename World => wr2
                change World.cell? _ _ = some (.int .i64 (gM R j q)) at hc1
                have hn1 := hokR.out.num j q
                have ⟨m1, m2⟩ := mul_bd hn1.1 hn1.2 hib.1 hib.2
                have hput := hO.out.put hrr hvj.out (k := q) (gM R j q * iv % 65521)
                have e2 : (R.set j (scP (R.getD j []) iv q)).set j ((scP (R.getD j []) iv q).set q (gM R j q * iv % 65521)) = R.set j (scP (R.getD j []) iv (q + 1)) := by
                  rw [list_set_set]; congr 1; exact scP_set _ _
                rw [e2] at hput
                replace hput := Lib.hid hput
                clear e2 hrr
                generalize gM R j q = x at hn1 m1 m2 hc1 hput
                have q1 : (q : Int) < (m : Int) := by omega
                have q0 : (0 : Int) ≤ (q : Int) := by omega
                go_wp2
                go_still_tail 16, (by kernel_rfl)
                change wpList _ _ _ _ _ wr2.drew
                go_wp2
                go_roundw
                case rel => exact ⟨q + 1, by omega, by go_num, Lib.hid (hK.out.trans hput.out.2).drew, Lib.hid (hput.out.1.kept (Below.refl _ _).drew)⟩
                case measure => simp [intOf] <;> omega
              · obtain rfl : m = q := by omega
                have hO' := Lib.hid (show OwnMv _ base (.slice (some ⟨g, 0, none⟩) n c) (clP R j k 0) vs1 from by
                  have := hO.out
                  rw [clP_zero, hown.out, ← scP_end, hlen.out]; exact this)
                clear hO hrr
                go_wp2
                clear hcj hown hib
                go_loopw [12, 13, 14] (fun ii _ _ wr => ∃ i' : Nat, i' ≤ n ∧ ii = .int .i64 i' ∧ Hid (KeptBut vs1 X wr) ∧ Hid (OwnMv wr base (.slice (some ⟨g, 0, none⟩) n c) (clP R j k i') vs1)) (fun ii _ _ _ => n - (intOf ii).toNat)
                case atStart => exact ⟨0, Nat.zero_le _, rfl, hK, hO'⟩
                case round =>
                  obtain ⟨i, hi', rfl, hK, hO⟩ := hrel
                  rename World => wr3
                  by_cases hin : i < n
                  · obtain ⟨ui, hui⟩ : ∃ u, vs1[i]? = some u := ⟨_, List.getElem?_eq_getElem (by rw [hO.out.len, clP_len, hokR.out.1]; exact hin)⟩
                    have i1 : (i : Int) < (n : Int) := by omega
                    have i0 : (0 : Int) ≤ (i : Int) := by omega
                    by_cases hir : i = j
                    · subst hir
                      rw [clP_skip R (.inl rfl)] at hO
                      replace hui := Lib.hid hui
                      go_wp2
                      go_roundw
                      case rel => exact ⟨i + 1, by omega, by go_num, hK, hO⟩
                      case measure => simp [intOf] <;> omega
                    · obtain ⟨g', c', e, _, _, hcg, _⟩ := hO.out.at_ (clP_get R (by rw [hokR.out.1]; exact hin) hir) hui
                      simp only [Value.slice.injEq, Option.some.injEq, Addr.mk.injEq, and_true] at e
                      obtain ⟨rfl, -, -⟩ := e
                      obtain ⟨g4, c4, rfl, _, _, hcc, _⟩ := hO.out.num (clP_get R (by rw [hokR.out.1]; exact hin) hir) hui (k := k) (by rw [hokR.out.row hin]; exact hkm)
                      rw [hokR.out.row hin] at hui hcg
                      change wr3.cell? _ = some (.int .i64 (gM R i k)) at hcc
                      have hir' : ((i : Int) == (j : Int)) = false := by rw [beq_eq_false_iff_ne]; omega
                      by_cases hz : gM R i k = 0
                      · rw [clP_skip R (.inr hz)] at hO
                        rw [hz] at hcc
                        replace hui := Lib.hid hui
                        replace hz := Lib.hid hz
                        go_wp2
                        go_roundw
                        case rel => exact ⟨i + 1, by omega, by go_num, hK, hO⟩
                        case measure => simp [intOf] <;> omega
                      · have hz' : ((gM R i k) == 0) = false := by rw [beq_eq_false_iff_ne]; exact hz
                        have hzb := hokR.out.num i k
                        have hzp : 0 < gM R i k := by omega
                        have hset : Hid ((clP R j k i).set i (subR (R.getD i []) (ownR R j k) (65521 - gM R i k)) = clP R j k (i + 1)) := Lib.hid (clP_set R hir hz)
                        replace hz := Lib.hid hz
                        have hui' := Lib.hid hui
                        clear hui
                        go_wp2
                        obtain ⟨wi, rfl⟩ : ∃ wi : World, wi = wr3 := ⟨_, rfl⟩
                        clear hcg hcc
                        go_loopw [14] (fun ii wr => ∃ q : Nat, q ≤ m ∧ ii = .int .i64 q ∧ Hid (KeptBut vs1 X wr) ∧ Hid (OwnMv wr base (.slice (some ⟨g, 0, none⟩) n c) ((clP R j k i).set i (sbP (R.getD i []) (ownR R j k) (65521 - gM R i k) q)) vs1)) (fun ii _ => m - (intOf ii).toNat)
                        case atStart => exact ⟨0, Nat.zero_le _, rfl, hK, Lib.hid (by rw [sbP_zero, list_set_same (clP_get R (by rw [hokR.out.1]; exact hin) hir)]; exact hO.out)⟩
                        case round =>
                          obtain ⟨q, hq2, rfl, hK, hO⟩ := hrel
                          rename World => wr4
                          have hri : ((clP R j k i).set i (sbP (R.getD i []) (ownR R j k) (65521 - gM R i k) q))[i]? = some (sbP (R.getD i []) (ownR R j k) (65521 - gM R i k) q) := List.getElem?_set_self (by rw [clP_len, hokR.out.1]; exact hin)
                          obtain ⟨g5, c5, e5, -, -, hcg, -⟩ := hO.out.at_ hri hui'.out
                          simp only [Value.slice.injEq, Option.some.injEq, Addr.mk.injEq, and_true] at e5
                          obtain ⟨rfl, -, -⟩ := e5
                          by_cases hlt : q < m
                          · have hro : ((clP R j k i).set i (sbP (R.getD i []) (ownR R j k) (65521 - gM R i k) q))[j]? = some (ownR R j k) := by rw [List.getElem?_set_ne hir]; exact clP_own R (by rw [hokR.out.1]; exact hjn)
                            obtain ⟨g5, c5, e5, -, -, hcj, -⟩ := hO.out.at_ hro hvj.out
                            simp only [Value.slice.injEq, Option.some.injEq, Addr.mk.injEq, and_true] at e5
                            obtain ⟨rfl, -, -⟩ := e5
                            obtain ⟨g', c', e, -, -, hx, hf⟩ := hO.out.num hri hui'.out (k := q) (by rw [sbP_len, hokR.out.row hin]; exact hlt)
                            simp only [Value.slice.injEq, Option.some.injEq, Addr.mk.injEq, and_true] at e
                            obtain ⟨rfl, -, -⟩ := e
                            rw [sbP_get _ _ _ (by rw [hokR.out.row hin]; exact hlt)] at hx
                            change wr4.cell? _ = some (.int .i64 (gM R i q)) at hx
                            obtain ⟨g', c', e, -, -, hy, -⟩ := hO.out.num hro hvj.out (k := q) (by rw [ownR_len, hlen.out]; exact hlt)
                            simp only [Value.slice.injEq, Option.some.injEq, Addr.mk.injEq, and_true] at e
                            obtain ⟨rfl, -, -⟩ := e
                            have hput := hO.out.put hri hui'.out (k := q) ((gM R i q + (65521 - gM R i k) * (ownR R j k).getD q 0) % 65521)
                            rw [list_set_set, show (sbP (R.getD i []) (ownR R j k) (65521 - gM R i k) q).set q ((gM R i q + (65521 - gM R i k) * (ownR R j k).getD q 0) % 65521) = sbP (R.getD i []) (ownR R j k) (65521 - gM R i k) (q + 1) from sbP_set _ _ _] at hput
                            replace hput := Lib.hid hput
                            have hyb := ownR_bd R j k q
                            have hxb := hokR.out.num i q
                            have ⟨m1, m2⟩ := mul_bd (a := 65521 - gM R i k) (b := (ownR R j k).getD q 0) (by omega) (by omega) hyb.1 hyb.2
                            clear hri hro
                            generalize (ownR R j k).getD q 0 = y at hy hyb m1 m2 hput
                            generalize gM R i q = x at hx hxb hput
                            have q1 : (q : Int) < (m : Int) := by omega
                            have q0 : (0 : Int) ≤ (q : Int) := by omega
                            go_wp2
                            go_still_tail 25, (by kernel_rfl)
                            change wpList _ _ _ _ _ wr4.drew
                            go_wp2
                            go_roundw
                            case rel => exact ⟨q + 1, by omega, by go_num, Lib.hid (hK.out.trans hput.out.2).drew, Lib.hid (hput.out.1.kept (Below.refl _ _).drew)⟩
                            case measure => simp [intOf] <;> omega
                          · obtain rfl : m = q := by omega
                            go_wp2
                            go_roundw
                            case rel => exact ⟨i + 1, by omega, by go_num, hK, Lib.hid (by have := hO.out; rw [show sbP (R.getD i []) (ownR R j k) (65521 - gM R i k) m = subR (R.getD i []) (ownR R j k) (65521 - gM R i k) from by rw [← sbP_end, hokR.out.row hin], hset.out] at this; exact this)⟩
                            case measure => simp [intOf] <;> omega
                  · obtain rfl : n = i := by omega
                    have hOe := Lib.hid (show OwnMv wr3 base (.slice (some ⟨g, 0, none⟩) n c) (clearM (swapM s.rows a j) j k) vs1 from by
                      have := hO.out
                      rw [show clP R j k n = clearM R j k from by rw [← clP_end, hokR.out.1], ← hRe.out] at this
                      exact this)
                    have hBe := Lib.hid (hBX.out.trans (hK.out.below (by have := hBX.out.size; omega) (fun u hu q hq => (hO1.out.ge u hu q hq).1)))
                    have hpe : Hid (OwnI wr3 w.heap.size (.slice Ap j cp) (natI (s.piv.map (·.2)))) := Lib.hid (own_of_block hpX.out (fun g' e => hK.out.block g' (hpX.out.lt g' e).2 (fun u hu e2 => by
                      have h1 := hlo1.out u hu g' e2
                      have h2 := (hpX.out.lt g' e).1
                      omega)))
                    have hpa : Hid ((wr3.alloc (.cells #[.int .i64 k] 3)).ownsRow w.heap.size 3 1 (.slice Ap j cp) j (ints (natI (s.piv.map (·.2))))) := Lib.hid (by
                      have := (hpe.out.below ((Below.refl wr3.heap.size wr3).alloc (Nat.le_refl _) (.cells #[.int .i64 k] 3)))
                      unfold OwnI at this
                      rwa [hpl.out] at this)
                    have hwz : Hid (w.heap.size ≤ (wr3.alloc (.cells #[.int .i64 k] 3)).heap.size) := Lib.hid (by have := hBe.out.size; simp; omega)
                    clear hO
                    go_wp2_with (at_builtin; (refine wpList_append_own_at _ rfl _ _ 23 rfl w.heap.size 3 i0 _ 1 8 Tryd.underlying23 hi hz0 hz1 hz2 rfl (by omega) (.slice Ap j cp) j (ints (natI (s.piv.map (·.2)))) rfl hpa.out ⟨wr3.heap.size, 0, none⟩ 1 1 [.int .i64 k] rfl rfl (cell_one_new wr3 _ _) (by simp [Value.oneCell']) (by unfold maxLen; omega) (by omega) hwz.out ?_); intro v' w1 hown1 hgrow _ _)
                    have hfin := reduce_fin (k := k) hok.out hL.out hjn ha2 hOe.out hlo1.out hpe.out hBe.out hbw hown1 hgrow
                    rw [← hfp.out] at hfin
                    replace hfin := Lib.hid hfin
                    clear hown1 hgrow
                    go_wp2
                    go_roundw
                    case rel => exact ⟨k, _, by omega, rfl, by go_num, hfin⟩
                    case measure => simp [intOf] <;> omega
end Go.Proofs.YtfljkcmijnhgkaaDoor

namespace Go.Proofs.YtfljkcmijnhgkaaDoor
open Go.RowKit
set_option linter.unusedSimpArgs false

theorem run_append_rd (W : World) (ty : TypeId) (base : Nat) (v u : Value) (n : Nat) (xs : List Value) (ys : List Int) (hown : W.ownsRow base 3 1 v n xs) (hrd : RdI W u ys) (hb : n + ys.length ≤ 1000000) (hbase : base ≤ W.heap.size) :
    ∃ v' W', (Builtin.append_ #[23, 23] ty #[v, u]).run Tryd.prog W = .ok v' W' ∧ W'.ownsRow base 3 1 v' (n + ys.length) (xs ++ ints ys) ∧ W.grownBy W' v.ownBlock ∧ (v'.ownBlock = v.ownBlock ∨ v'.ownBlock = some W.heap.size) := by
  obtain ⟨i0, hi, hz0, hz1, hz2⟩ := info_parts infoI
  obtain ⟨A, c, rfl, h1, h2, h3⟩ := hrd
  rw [ints_len] at *
  cases A with
  | none =>
    have hx : ys = [] := by
      rcases Nat.eq_zero_or_pos ys.length with e | e
      · exact List.eq_nil_of_length_eq_zero e
      · obtain ⟨b, off, e2, _⟩ := h3 e; cases e2
    subst hx
    exact ⟨v, W, run_append_of_nil (P := Tryd.prog) W base 23 ty 3 i0 1 Tryd.underlying23 hi v n xs hown c, by simpa [ints] using hown, World.grownBy.refl W _, .inl rfl⟩
  | some ad =>
    have hnews : ∀ j u, (ints ys)[j]? = some u → W.cell? (ad.add j) = some u := fun j u hj => by
      have hj' := (List.getElem?_eq_some_iff.1 hj).1
      rw [ints_len] at hj'
      obtain ⟨b, off, e, h4⟩ := h3 (by omega)
      cases e
      rw [add_off]
      exact h4 j u hj
    obtain ⟨v', W', hrun, h5, h6, _, h7⟩ := run_append_own_at (P := Tryd.prog) W base 23 ty 3 i0 _ 1 8 Tryd.underlying23 hi hz0 hz1 hz2 rfl (by omega) v n xs hown ad ys.length c (ints ys) (by rw [ints_len, Nat.mul_one]) hnews (fun u hu => by obtain ⟨x, _, rfl⟩ := List.mem_map.1 hu; rfl) (by unfold maxLen; omega) (by omega) hbase
    exact ⟨v', W', hrun, h5, h6, h7⟩
theorem step_append_rd {ops : Array Oper} {o : Oper} {a : Act} {K : Act → World → Prop} {Q : Exit → Act → World → Prop} {E : Prop} {w : World} (hgd : o.guard = none) (s x : Operand)
    (ho : o.op = .call { callee := .builtin .append, args := #[s, x], argTypes := #[23, 23] }) (base : Nat) (v u : Value) (n : Nat) (xs : List Value) (ys : List Int) (hs : a.eval s = v) (hx : a.eval x = u)
    (hown : w.ownsRow base 3 1 v n xs) (hrd : RdI w u ys) (hb : n + ys.length ≤ 1000000) (hbase : base ≤ w.heap.size)
    (h : ∀ v' w', w'.ownsRow base 3 1 v' (n + ys.length) (xs ++ ints ys) → w.grownBy w' v.ownBlock → (v'.ownBlock = v.ownBlock ∨ v'.ownBlock = some w.heap.size) → K (a.put o.dst v') w') :
    if Region.wanted o (yielded ops a.tmps) = true then Oper.wp Tryd.prog o a w K Q else E := by
  have hw : Region.wanted o (yielded ops a.tmps) = true := by simp [Region.wanted, hgd]
  rw [if_pos hw]
  obtain ⟨v', w', hrun, h2, h3, h4⟩ := run_append_rd w o.type base v u n xs ys hown hrd hb hbase
  unfold Oper.wp execOp
  simp only [ho, resolve, invoke, builtin, Sem.run_bind, Sem.run_pure, Result.andThen_ok, List.map_toArray, List.map_cons, List.map_nil, hs, hx, hrun]
  exact h v' w' h2 h3 h4
theorem wpList_append_rd {ops : Array Oper} {rest : List Oper} {o : Oper} {a : Act} {Q : Exit → Act → World → Prop} {w : World} (hgd : o.guard = none) (s x : Operand)
    (ho : o.op = .call { callee := .builtin .append, args := #[s, x], argTypes := #[23, 23] }) (base : Nat) (v u : Value) (n : Nat) (xs : List Value) (ys : List Int) (hs : a.eval s = v) (hx : a.eval x = u)
    (hown : w.ownsRow base 3 1 v n xs) (hrd : RdI w u ys) (hb : n + ys.length ≤ 1000000) (hbase : base ≤ w.heap.size)
    (h : ∀ v' w', w'.ownsRow base 3 1 v' (n + ys.length) (xs ++ ints ys) → w.grownBy w' v.ownBlock → (v'.ownBlock = v.ownBlock ∨ v'.ownBlock = some w.heap.size) → wpList Tryd.prog ops Q rest (a.put o.dst v') w') : wpList Tryd.prog ops Q (o :: rest) a w :=
  wpList_plain hgd fun _ hK => by
    obtain ⟨v', w', hrun, h2, h3, h4⟩ := run_append_rd w o.type base v u n xs ys hown hrd hb hbase
    unfold Oper.wp execOp
    simp only [ho, resolve, invoke, builtin, Sem.run_bind, Sem.run_pure, Result.andThen_ok, List.map_toArray, List.map_cons, List.map_nil, hs, hx, hrun]
    exact hK _ _ (h v' w' h2 h3 h4)
end Go.Proofs.YtfljkcmijnhgkaaDoor

namespace Go.Proofs.YtfljkcmijnhgkaaDoor
open Go.RowKit
set_option linter.unusedSimpArgs false

section
variable {P : Program} {ops : Array Oper} {Q : Exit → Act → World → Prop} {md : Region.Mode} {S T : World → Prop} {d : Nat} {i j fuel : Nat} {oi oj : Oper} {listed : Array Bool} {a : Act} {w : World}
/-- One of two comes up. -/
theorem D_two (hr : Region.ready md ops listed = [i, j]) (hi : ops[i]? = some oi) (hj : ops[j]? = some oj)
    (h : ∀ K : Act → World → Prop, (∀ a' w', S w' → (i ≠ d → listed.getD d true = false → T w') → wpAnyD P md ops Q S T d fuel (listed.setIfInBounds i true) a' w' → K a' w') →
      if Region.wanted oi (yielded ops a.tmps) = true then Oper.wp P oi a w K Q else K (a.put oi.dst undef) w)
    (h2 : ∀ K : Act → World → Prop, (∀ a' w', S w' → (j ≠ d → listed.getD d true = false → T w') → wpAnyD P md ops Q S T d fuel (listed.setIfInBounds j true) a' w' → K a' w') →
      if Region.wanted oj (yielded ops a.tmps) = true then Oper.wp P oj a w K Q else K (a.put oj.dst undef) w) : wpAnyD P md ops Q S T d (fuel + 1) listed a w := by
  refine ⟨fun h0 => (by rw [hr] at h0; cases h0), fun q hq => ?_⟩
  rw [hr] at hq
  rcases List.mem_cons.1 hq with rfl | hq
  · have h3 := h (fun a' w' => (S w' ∧ (q ≠ d → listed.getD d true = false → T w')) ∧ wpAnyD P md ops Q S T d fuel (listed.setIfInBounds q true) a' w') (fun a' w' h1 h2 h3 => ⟨⟨h1, h2⟩, h3⟩)
    unfold wpOp
    simp only [hi]
    split
    · rename_i hw; rw [if_pos hw] at h3; exact .inl h3
    · rename_i hw; rw [if_neg hw] at h3; exact h3
  · obtain rfl : q = j := by simpa using hq
    have h3 := h2 (fun a' w' => (S w' ∧ (q ≠ d → listed.getD d true = false → T w')) ∧ wpAnyD P md ops Q S T d fuel (listed.setIfInBounds q true) a' w') (fun a' w' h1 h2 h3 => ⟨⟨h1, h2⟩, h3⟩)
    unfold wpOp
    simp only [hj]
    split
    · rename_i hw; rw [if_pos hw] at h3; exact .inl h3
    · rename_i hw; rw [if_neg hw] at h3; exact h3
end
theorem augM_len (rs : List (List Int)) (b : List Int) : (augM rs b).length = rs.length := by simp [augM]
theorem augM_take (rs : List (List Int)) (b : List Int) {k : Nat} (hk : k < rs.length) : (augM rs b).take k ++ [rs.getD k [] ++ [b.getD k 0]] = (augM rs b).take (k + 1) := by
  rw [List.take_add_one, augM, List.getElem?_map, List.getElem?_range hk]; rfl
/-- The pivots stand in order of rows. -/
theorem stepS_rows {s : Sys} {k : Nat} (h : ∀ (i : Nat) (p : Nat × Nat), s.piv[i]? = some p → p.1 = i) : ∀ (i : Nat) (p : Nat × Nat), (stepS s k).piv[i]? = some p → p.1 = i := by
  intro i p hp
  cases hf : findP s.rows k (s.rows.length - s.piv.length) s.piv.length with
  | none =>
    rw [show stepS s k = s from by rw [stepS, hf]] at hp
    exact h i p hp
  | some a =>
    rw [show stepS s k = pivS s k a from by rw [stepS, hf]] at hp
    simp only [pivS] at hp
    by_cases hi : i < s.piv.length
    · rw [List.getElem?_append_left hi] at hp; exact h i p hp
    · have hlt := (List.getElem?_eq_some_iff.1 hp).1
      have : i = s.piv.length := by simp at hlt; omega
      subst this
      rw [List.getElem?_append_right (Nat.le_refl _), Nat.sub_self] at hp
      cases hp; rfl
theorem foldS_rows : ∀ (l : List Nat) (s : Sys), (∀ (i : Nat) (p : Nat × Nat), s.piv[i]? = some p → p.1 = i) → ∀ (i : Nat) (p : Nat × Nat), (l.foldl stepS s).piv[i]? = some p → p.1 = i
  | [], _, h => h
  | _ :: l, _, h => foldS_rows l _ (stepS_rows h)
theorem solveS_rows (rs : List (List Int)) (cols : List Nat) (t : Bool) : ∀ (i : Nat) (p : Nat × Nat), (solveS rs cols t).piv[i]? = some p → p.1 = i :=
  foldS_rows cols _ (fun i p h => by simp at h)
set_option maxRecDepth 100000 in
set_option maxHeartbeats 6400000 in
theorem Solution_any (rs : List (List Int)) (b : List Int) (n m : Nat) (v u : Value) (w : World) (hv : RdM w v rs) (hu : RdI w u b) (hok : okM rs n m) (hbl : b.length = n) (hbb : ∀ x ∈ b, 0 ≤ x ∧ x < 65521) (hn : n ≤ 900) (hm : m ≤ 900) :
    Calls Tryd.prog 92 #[v, u, .int .i64 m] w fun e w' => (∃ p, e = .returned (.tuple #[p, .bool (solvedM rs b m).isSome]) ∧ OwnI w' w.heap.size p ((solvedM rs b m).getD [])) ∧ Below w.heap.size w w' := by
  obtain ⟨iI, hiI, hI0, hI1, hI2⟩ := info_parts infoI
  obtain ⟨iR, hiR, hR0, hR1, hR2⟩ := info_parts infoR
  obtain ⟨A, c, rfl, h1, h2, h3⟩ := hv.open_
  obtain ⟨B, d, rfl, g1, g2, g3⟩ := hu.open_
  have hr0 := hok.1
  rw [hok.1] at h1 h2 h3 ⊢
  rw [hbl] at g1 g2 g3 ⊢
  replace h3 := Lib.hid h3
  replace g3 := Lib.hid g3
  replace hr0 := Lib.hid hr0
  have hok' := Lib.hid hok
  replace hbb := Lib.hid hbb
  replace hbl := Lib.hid hbl
  clear hv hu hok
  go_enter Tryd.func92, Tryd.ntmps92
  go_wp2
  go_loopw [8, 9] (fun o ii wr => ∃ k : Nat, k ≤ n ∧ ii = .int .i64 k ∧ Hid (Below w.heap.size w wr) ∧ Hid (∃ vs, OwnMv wr w.heap.size o ((augM rs b).take k) vs)) (fun _ ii _ => n - (intOf ii).toNat)
  case atStart => exact ⟨0, Nat.zero_le _, rfl, Lib.hid (Below.refl _ _), Lib.hid ⟨[], by rw [List.take_zero]; exact OwnMv_nil _ _⟩⟩
  case round =>
    obtain ⟨k, hk, rfl, hB, hM⟩ := hrel
    by_cases hlt : k < n
    · obtain ⟨ba, offa, ua, rfl, hca, hua⟩ := h3.out k hlt
      obtain ⟨bb, offb, rfl, hcb⟩ := g3.out k hlt
      have hrl : Hid ((rs.getD k []).length = m) := Lib.hid (hok'.out.row hlt)
      obtain ⟨Aa, da, rfl, q1, q2, -⟩ := hua.open_
      have hud := Lib.hid hua
      rw [hrl.out] at q1 q2 hca hud
      clear hua
      have htk := Lib.hid (augM_take rs b (k := k) (by rw [hr0.out]; exact hlt))
      have hkl : ((augM rs b).take k).length = k := by rw [List.length_take, augM_len, hr0.out]; omega
      obtain ⟨vs, hMv⟩ := hM.out
      have hvl := hMv.len
      rw [hkl] at hvl
      obtain ⟨A1, c1, rfl⟩ := own_shape hMv.outer
      have hk2 := Lib.hid hkl
      rw [hkl] at hMv ⊢
      replace hMv := Lib.hid hMv
      have hBs := hB.out.size
      clear hM hkl hvl
      generalize hx : b.getD k 0 = x at hcb htk
      clear hx
      generalize hrw : rs.getD k [] = row at *
      clear hrw
      have k1 : (k : Int) < (n : Int) := by omega
      have k0 : (0 : Int) ≤ (k : Int) := by omega
      have HSw : ∀ W, Below w.heap.size w W → W.cell? ⟨ba, offa + k, none⟩ = some (.slice Aa m da) ∧ W.cell? ⟨bb, offb + k, none⟩ = some (.int .i64 x) := fun W hb2 =>
        ⟨(hb2.cell (p := ⟨ba, offa + k, none⟩) (World.block_lt_of_cell? w _ hca)).trans hca, (hb2.cell (p := ⟨bb, offb + k, none⟩) (World.block_lt_of_cell? w _ hcb)).trans hcb⟩
      have HS : ∀ W, Below wr.heap.size wr W → W.cell? ⟨ba, offa + k, none⟩ = some (.slice Aa m da) ∧ W.cell? ⟨bb, offb + k, none⟩ = some (.int .i64 x) := fun W hW =>
        HSw W (hB.out.trans (hW.mono hBs))
      replace HSw := Lib.hid HSw
      replace HS := Lib.hid HS
      have hnewsW : Hid (∀ W, Below wr.heap.size wr W → RdI W (.slice Aa m da) row) := Lib.hid (fun W hW => hud.out.below (B := w.heap.size) (hB.out.trans (hW.mono hBs)) (Nat.le_refl _))
      clear hud hca hcb
      have HS0 := HS.out wr.drew (Below.refl wr.heap.size wr).drew
      go_wp2
      refine D_begin (fun w' => w'.cell? ⟨ba, offa + k, none⟩ = some (.slice Aa m da) ∧ w'.cell? ⟨bb, offb + k, none⟩ = some (.int .i64 x)) (fun _ => True) 99 (by kernel_rfl) ?_
      change wpAnyD _ _ _ _ _ _ _ _ _ _ wr.drew
      simp only [List.size_toArray, List.length_cons, List.length_nil, Nat.reduceAdd, Array.replicate_succ, Array.replicate_zero, List.push_toArray, List.append_toArray, List.nil_append, List.cons_append]
      refine D_take (i := 0) (v := ?_) rfl (by kernel_rfl) (by kernel_rfl) (by kernel_rfl) (by kernel_rfl) (fun _ _ _ h => h) (Or.inl ⟨by rfl, ?_⟩) HS0 (fun _ => trivial) ?_
      rotate_left; · intro w1 hw1; obtain ⟨hw1, hw2⟩ := hw1; go_simp; try with_reducible rfl
      try simp only [Act.put, List.getElem_toArray, List.getElem_cons_zero, List.getElem_cons_succ, List.setIfInBounds_toArray, List.set_cons_zero, List.set_cons_succ]
      refine D_take (i := 2) (v := ?_) rfl (by kernel_rfl) (by kernel_rfl) (by kernel_rfl) (by kernel_rfl) (fun _ _ _ h => h) (Or.inl ⟨by rfl, ?_⟩) HS0 (fun _ => trivial) ?_
      rotate_left; · intro w1 hw1; obtain ⟨hw1, hw2⟩ := hw1; go_simp; try with_reducible rfl
      try simp only [Act.put, List.getElem_toArray, List.getElem_cons_zero, List.getElem_cons_succ, List.setIfInBounds_toArray, List.set_cons_zero, List.set_cons_succ]
      refine D_take (i := 3) (v := ?_) rfl (by kernel_rfl) (by kernel_rfl) (by kernel_rfl) (by kernel_rfl) (fun _ _ _ h => h) (Or.inl ⟨by rfl, ?_⟩) HS0 (fun _ => trivial) ?_
      rotate_left; · intro w1 hw1; obtain ⟨hw1, hw2⟩ := hw1; go_simp; try with_reducible rfl
      try simp only [Act.put, List.getElem_toArray, List.getElem_cons_zero, List.getElem_cons_succ, List.setIfInBounds_toArray, List.set_cons_zero, List.set_cons_succ]
      refine D_take (i := 4) (v := ?_) rfl (by kernel_rfl) (by kernel_rfl) (by kernel_rfl) (by kernel_rfl) (fun _ _ _ h => h) (Or.inl ⟨by rfl, ?_⟩) HS0 (fun _ => trivial) ?_
      rotate_left; · intro w1 hw1; obtain ⟨hw1, hw2⟩ := hw1; go_simp; try with_reducible rfl
      try simp only [Act.put, List.getElem_toArray, List.getElem_cons_zero, List.getElem_cons_succ, List.setIfInBounds_toArray, List.set_cons_zero, List.set_cons_succ]
      refine D_take (i := 5) (v := ?_) rfl (by kernel_rfl) (by kernel_rfl) (by kernel_rfl) (by kernel_rfl) (fun _ _ _ h => h) (Or.inl ⟨by rfl, ?_⟩) HS0 (fun _ => trivial) ?_
      rotate_left; · intro w1 hw1; obtain ⟨hw1, hw2⟩ := hw1; go_simp; try with_reducible rfl
      try simp only [Act.put, List.getElem_toArray, List.getElem_cons_zero, List.getElem_cons_succ, List.setIfInBounds_toArray, List.set_cons_zero, List.set_cons_succ]
      refine D_take (i := 7) (v := ?_) rfl (by kernel_rfl) (by kernel_rfl) (by kernel_rfl) (by kernel_rfl) (fun _ _ _ h => h) (Or.inl ⟨by rfl, ?_⟩) HS0 (fun _ => trivial) ?_
      rotate_left; · intro w1 hw1; obtain ⟨hw1, hw2⟩ := hw1; go_simp; try with_reducible rfl
      try simp only [Act.put, List.getElem_toArray, List.getElem_cons_zero, List.getElem_cons_succ, List.setIfInBounds_toArray, List.set_cons_zero, List.set_cons_succ]
      refine D_take (i := 8) (v := ?_) rfl (by kernel_rfl) (by kernel_rfl) (by kernel_rfl) (by kernel_rfl) (fun _ _ _ h => h) (Or.inl ⟨by rfl, ?_⟩) HS0 (fun _ => trivial) ?_
      rotate_left; · intro w1 hw1; obtain ⟨hw1, hw2⟩ := hw1; go_simp; try with_reducible rfl
      try simp only [Act.put, List.getElem_toArray, List.getElem_cons_zero, List.getElem_cons_succ, List.setIfInBounds_toArray, List.set_cons_zero, List.set_cons_succ]
      refine D_take (i := 9) (v := ?_) rfl (by kernel_rfl) (by kernel_rfl) (by kernel_rfl) (by kernel_rfl) (fun _ _ _ h => h) (Or.inl ⟨by rfl, ?_⟩) HS0 (fun _ => trivial) ?_
      rotate_left; · intro w1 hw1; obtain ⟨hw1, hw2⟩ := hw1; go_simp; try with_reducible rfl
      try simp only [Act.put, List.getElem_toArray, List.getElem_cons_zero, List.getElem_cons_succ, List.setIfInBounds_toArray, List.set_cons_zero, List.set_cons_succ]
      refine D_take (i := 10) (v := ?_) rfl (by kernel_rfl) (by kernel_rfl) (by kernel_rfl) (by kernel_rfl) (fun _ _ _ h => h) (Or.inl ⟨by rfl, ?_⟩) HS0 (fun _ => trivial) ?_
      rotate_left; · intro w1 hw1; obtain ⟨hw1, hw2⟩ := hw1; go_simp; try with_reducible rfl
      try simp only [Act.put, List.getElem_toArray, List.getElem_cons_zero, List.getElem_cons_succ, List.setIfInBounds_toArray, List.set_cons_zero, List.set_cons_succ]
      have hbd : Below wr.heap.size wr wr.drew := (Below.refl wr.heap.size wr).drew
      have hds : Hid (wr.drew.heap.size = wr.heap.size) := Lib.hid rfl
      clear HS0
      generalize wr.drew = Wd at hbd hds ⊢
      replace hbd := Lib.hid hbd
      have b_Wd := hbd
      refine D_two (i := 1) (j := 11) (by kernel_rfl) rfl rfl ?_ ?_
      · intro K hK
        rw [if_pos (by rfl)]
        go_simp
        have b_W1 : Hid (Below wr.heap.size wr (Wd.alloc (.cells #[] 3))) := Lib.hid (b_Wd.out.alloc (by have := b_Wd.out.size; omega) _)
        have z_W1 : (Wd.alloc (.cells #[] 3)).heap.size = Wd.heap.size + 1 := World.size_alloc _ _
        have o_W1 : Hid ((Wd.alloc (.cells #[] 3)).ownsRow wr.heap.size 3 1 (.slice (some ⟨Wd.heap.size, 0, none⟩) 0 0) 0 []) := Lib.hid (World.ownsRow_made Wd #[] 0 (b_Wd.out.size) (by unfold maxLen; omega) rfl)
        refine hK _ _ (HS.out _ b_W1.out) (fun _ _ => trivial) ?_
        try simp only [Act.put, Nat.zero_add, List.getElem_toArray, List.getElem_cons_zero, List.getElem_cons_succ, List.setIfInBounds_toArray, List.set_cons_zero, List.set_cons_succ]
        clear hK K
        generalize hg_W1 : Wd.alloc (.cells #[] 3) = W1 at b_W1 z_W1 o_W1 ⊢
        replace hg_W1 := Lib.hid hg_W1
        replace z_W1 := Lib.hid z_W1
        refine D_two (i := 6) (j := 11) (by kernel_rfl) rfl rfl ?_ ?_
        · intro K hK
          refine step_append_rd (by rfl) _ _ (by rfl) wr.heap.size (.slice (some ⟨Wd.heap.size, 0, none⟩) 0 0) (.slice Aa m da) 0 [] row (by rfl) (by rfl) o_W1.out (hnewsW.out _ b_W1.out) (by rw [hrl.out]; omega) (b_W1.out.size) ?_
          intro v6 W2 hown6 hgrow6 hat6
          simp only [Nat.zero_add, List.nil_append] at hown6
          rw [hrl.out] at hown6
          obtain ⟨A6, cap, rfl⟩ := own_shape hown6
          have b_W2 : Hid (Below wr.heap.size wr W2) := Lib.hid (b_W1.out.grown hgrow6 (b_W1.out.size) (fun q hq => (o_W1.out.lt q hq).1))
          have o_W2 := Lib.hid hown6
          clear hown6 hgrow6 hat6
          refine hK _ _ (HS.out _ b_W2.out) (fun _ _ => trivial) ?_
          try simp only [Act.put, Nat.zero_add, List.getElem_toArray, List.getElem_cons_zero, List.getElem_cons_succ, List.setIfInBounds_toArray, List.set_cons_zero, List.set_cons_succ]
          clear hK K
          refine D_one (i := 11) (by kernel_rfl) rfl ?_
          intro K hK
          rw [if_pos (by rfl)]
          go_simp
          have b_W3 : Hid (Below wr.heap.size wr (W2.alloc (.cells #[.int .i64 x] 3))) := Lib.hid (b_W2.out.alloc (by have := b_W2.out.size; omega) _)
          have z_W3 : (W2.alloc (.cells #[.int .i64 x] 3)).heap.size = W2.heap.size + 1 := World.size_alloc _ _
          have s_W3 : Hid (∀ j u, [Value.int .i64 x][j]? = some u → (W2.alloc (.cells #[.int .i64 x] 3)).cell? ((⟨W2.heap.size, 0, none⟩ : Addr).add j) = some u) := Lib.hid (cell_one_new W2 _ _)
          refine hK _ _ (HS.out _ b_W3.out) (fun _ _ => trivial) ?_
          try simp only [Act.put, Nat.zero_add, List.getElem_toArray, List.getElem_cons_zero, List.getElem_cons_succ, List.setIfInBounds_toArray, List.set_cons_zero, List.set_cons_succ]
          clear hK K
          have o_W3 : Hid ((W2.alloc (.cells #[.int .i64 x] 3)).ownsRow wr.heap.size 3 1 (.slice A6 m cap) m (ints row)) := Lib.hid (own_below o_W2.out ((Below.refl _ _).alloc (Nat.le_refl _) _))
          generalize hg_W3 : W2.alloc (.cells #[.int .i64 x] 3) = W3 at b_W3 z_W3 s_W3 o_W3 ⊢
          replace hg_W3 := Lib.hid hg_W3
          replace z_W3 := Lib.hid z_W3
          refine D_one (i := 12) (by kernel_rfl) rfl ?_
          intro K hK
          refine step_append_lies _ (by rfl) _ _ _ (by rfl) wr.heap.size 3 iI _ 1 8 Tryd.underlying23 hiI hI0 hI1 hI2 rfl (by omega) (.slice A6 m cap) m (ints row) (by rfl) o_W3.out ⟨W2.heap.size, 0, none⟩ 1 1 [.int .i64 x] (by rfl) (by rfl) s_W3.out (by simp [Value.oneCell']) (by omega) (by unfold maxLen; omega) (by omega) (b_W3.out.size) W3.heap.size rfl ?_
          intro g2 cap2 W4 hown4 hgrow4 hat4 hlt4
          have b_W4 : Hid (Below wr.heap.size wr W4) := Lib.hid (b_W3.out.grown hgrow4 (b_W3.out.size) (fun q hq => (o_W3.out.lt q hq).1))
          have o_W4 : Hid (OwnI W4 wr.heap.size (.slice (some ⟨g2, 0, none⟩) (m + 1) cap2) (row ++ [x])) := Lib.hid (by
            unfold OwnI
            rw [List.length_append, hrl.out, ints_append, List.length_singleton]
            exact hown4)
          clear hown4 hgrow4 hat4 hlt4
          refine hK _ _ (HS.out _ b_W4.out) (fun _ _ => trivial) ?_
          try simp only [Act.put, Nat.zero_add, List.getElem_toArray, List.getElem_cons_zero, List.getElem_cons_succ, List.setIfInBounds_toArray, List.set_cons_zero, List.set_cons_succ]
          clear hK K
          refine D_one (i := 13) (by kernel_rfl) rfl ?_
          intro K hK
          rw [if_pos (by rfl)]
          go_simp
          have b_W5 : Hid (Below wr.heap.size wr (W4.alloc (.cells #[.slice (some ⟨g2, 0, none⟩) (m + 1) cap2] 23))) := Lib.hid (b_W4.out.alloc b_W4.out.size _)
          refine hK _ _ (HS.out _ b_W5.out) (fun _ _ => trivial) ?_
          try simp only [Act.put, Nat.zero_add, List.getElem_toArray, List.getElem_cons_zero, List.getElem_cons_succ, List.setIfInBounds_toArray, List.set_cons_zero, List.set_cons_succ]
          clear hK K
          have o_W5 : Hid ((W4.alloc (.cells #[.slice (some ⟨g2, 0, none⟩) (m + 1) cap2] 23)).ownsRow w.heap.size 23 1 (.slice A1 k c1) k vs) := Lib.hid (by
            have := (hMv.out.kept b_W5.out).outer
            rwa [hk2.out] at this)
          refine D_one (i := 14) (by kernel_rfl) rfl ?_
          intro K hK
          refine step_append_lies _ (by rfl) _ _ _ (by rfl) w.heap.size 23 iR _ 1 24 Tryd.underlying22 hiR hR0 hR1 hR2 rfl (by omega) (.slice A1 k c1) k vs (by rfl) o_W5.out ⟨W4.heap.size, 0, none⟩ 1 1 [.slice (some ⟨g2, 0, none⟩) (m + 1) cap2] (by rfl) (by rfl) (cell_one_new W4 _ _) (by simp [Value.oneCell']) (by omega) (by unfold maxLen; omega) (by omega) (by have := b_W5.out.size; omega) (W4.alloc (.cells #[.slice (some ⟨g2, 0, none⟩) (m + 1) cap2] 23)).heap.size rfl ?_
          intro g3 cap3 W6 hown6 hgrow6 hat6 hlt6
          have hfin := snoc_round hB.out hMv.out b_W4.out o_W4.out (by rw [hk2.out]) hown6 hgrow6
          rw [htk.out] at hfin
          replace hfin := Lib.hid hfin
          clear hown6 hgrow6 hat6 hlt6
          refine hK _ _ (HSw.out _ hfin.out.1) (fun _ _ => trivial) ?_
          try simp only [Act.put, Nat.zero_add, List.getElem_toArray, List.getElem_cons_zero, List.getElem_cons_succ, List.setIfInBounds_toArray, List.set_cons_zero, List.set_cons_succ]
          clear hK K
          refine D_one (i := 15) (by kernel_rfl) rfl ?_
          intro K hK
          rw [if_pos (by rfl)]
          go_simp
          refine hK _ _ (HSw.out _ hfin.out.1) (fun _ _ => trivial) ?_
          try simp only [Act.put, Nat.zero_add, List.getElem_toArray, List.getElem_cons_zero, List.getElem_cons_succ, List.setIfInBounds_toArray, List.set_cons_zero, List.set_cons_succ]
          clear hK K
          refine D_done (by kernel_rfl) ?_ _
          go_wp2
          go_roundw
          case rel => exact ⟨k + 1, by omega, by go_num, Lib.hid hfin.out.1, Lib.hid hfin.out.2⟩
          case measure => simp [intOf] <;> omega
        · intro K hK
          rw [if_pos (by rfl)]
          go_simp
          have b_W2 : Hid (Below wr.heap.size wr (W1.alloc (.cells #[.int .i64 x] 3))) := Lib.hid (b_W1.out.alloc (by have := b_W1.out.size; omega) _)
          have z_W2 : (W1.alloc (.cells #[.int .i64 x] 3)).heap.size = W1.heap.size + 1 := World.size_alloc _ _
          have s_W2 : Hid (∀ j u, [Value.int .i64 x][j]? = some u → (W1.alloc (.cells #[.int .i64 x] 3)).cell? ((⟨W1.heap.size, 0, none⟩ : Addr).add j) = some u) := Lib.hid (cell_one_new W1 _ _)
          refine hK _ _ (HS.out _ b_W2.out) (fun _ _ => trivial) ?_
          try simp only [Act.put, Nat.zero_add, List.getElem_toArray, List.getElem_cons_zero, List.getElem_cons_succ, List.setIfInBounds_toArray, List.set_cons_zero, List.set_cons_succ]
          clear hK K
          have o_W2 : Hid ((W1.alloc (.cells #[.int .i64 x] 3)).ownsRow wr.heap.size 3 1 (.slice (some ⟨Wd.heap.size, 0, none⟩) 0 0) 0 []) := Lib.hid (own_below o_W1.out ((Below.refl _ _).alloc (Nat.le_refl _) _))
          generalize hg_W2 : W1.alloc (.cells #[.int .i64 x] 3) = W2 at b_W2 z_W2 s_W2 o_W2 ⊢
          replace hg_W2 := Lib.hid hg_W2
          replace z_W2 := Lib.hid z_W2
          refine D_one (i := 6) (by kernel_rfl) rfl ?_
          intro K hK
          refine step_append_rd (by rfl) _ _ (by rfl) wr.heap.size (.slice (some ⟨Wd.heap.size, 0, none⟩) 0 0) (.slice Aa m da) 0 [] row (by rfl) (by rfl) o_W2.out (hnewsW.out _ b_W2.out) (by rw [hrl.out]; omega) (b_W2.out.size) ?_
          intro v6 W3 hown6 hgrow6 hat6
          simp only [Nat.zero_add, List.nil_append] at hown6
          rw [hrl.out] at hown6
          obtain ⟨A6, cap, rfl⟩ := own_shape hown6
          have b_W3 : Hid (Below wr.heap.size wr W3) := Lib.hid (b_W2.out.grown hgrow6 (b_W2.out.size) (fun q hq => (o_W2.out.lt q hq).1))
          have s_W3 : Hid (∀ j u, [Value.int .i64 x][j]? = some u → W3.cell? ((⟨W1.heap.size, 0, none⟩ : Addr).add j) = some u) := Lib.hid (fun j u hj => ((hgrow6.cell_far _ (by have := z_W1.out; have := z_W2.out; rw [add_off]; show W1.heap.size < _; omega) (by have := z_W1.out; have := z_W2.out; rw [add_off]; show some W1.heap.size ≠ some Wd.heap.size; simp; omega)).trans (s_W2.out j u hj)))
          have o_W3 := Lib.hid hown6
          clear hown6 hgrow6 hat6
          refine hK _ _ (HS.out _ b_W3.out) (fun _ _ => trivial) ?_
          try simp only [Act.put, Nat.zero_add, List.getElem_toArray, List.getElem_cons_zero, List.getElem_cons_succ, List.setIfInBounds_toArray, List.set_cons_zero, List.set_cons_succ]
          clear hK K
          refine D_one (i := 12) (by kernel_rfl) rfl ?_
          intro K hK
          refine step_append_lies _ (by rfl) _ _ _ (by rfl) wr.heap.size 3 iI _ 1 8 Tryd.underlying23 hiI hI0 hI1 hI2 rfl (by omega) (.slice A6 m cap) m (ints row) (by rfl) o_W3.out ⟨W1.heap.size, 0, none⟩ 1 1 [.int .i64 x] (by rfl) (by rfl) s_W3.out (by simp [Value.oneCell']) (by omega) (by unfold maxLen; omega) (by omega) (b_W3.out.size) W3.heap.size rfl ?_
          intro g2 cap2 W4 hown4 hgrow4 hat4 hlt4
          have b_W4 : Hid (Below wr.heap.size wr W4) := Lib.hid (b_W3.out.grown hgrow4 (b_W3.out.size) (fun q hq => (o_W3.out.lt q hq).1))
          have o_W4 : Hid (OwnI W4 wr.heap.size (.slice (some ⟨g2, 0, none⟩) (m + 1) cap2) (row ++ [x])) := Lib.hid (by
            unfold OwnI
            rw [List.length_append, hrl.out, ints_append, List.length_singleton]
            exact hown4)
          clear hown4 hgrow4 hat4 hlt4
          refine hK _ _ (HS.out _ b_W4.out) (fun _ _ => trivial) ?_
          try simp only [Act.put, Nat.zero_add, List.getElem_toArray, List.getElem_cons_zero, List.getElem_cons_succ, List.setIfInBounds_toArray, List.set_cons_zero, List.set_cons_succ]
          clear hK K
          refine D_one (i := 13) (by kernel_rfl) rfl ?_
          intro K hK
          rw [if_pos (by rfl)]
          go_simp
          have b_W5 : Hid (Below wr.heap.size wr (W4.alloc (.cells #[.slice (some ⟨g2, 0, none⟩) (m + 1) cap2] 23))) := Lib.hid (b_W4.out.alloc b_W4.out.size _)
          refine hK _ _ (HS.out _ b_W5.out) (fun _ _ => trivial) ?_
          try simp only [Act.put, Nat.zero_add, List.getElem_toArray, List.getElem_cons_zero, List.getElem_cons_succ, List.setIfInBounds_toArray, List.set_cons_zero, List.set_cons_succ]
          clear hK K
          have o_W5 : Hid ((W4.alloc (.cells #[.slice (some ⟨g2, 0, none⟩) (m + 1) cap2] 23)).ownsRow w.heap.size 23 1 (.slice A1 k c1) k vs) := Lib.hid (by
            have := (hMv.out.kept b_W5.out).outer
            rwa [hk2.out] at this)
          refine D_one (i := 14) (by kernel_rfl) rfl ?_
          intro K hK
          refine step_append_lies _ (by rfl) _ _ _ (by rfl) w.heap.size 23 iR _ 1 24 Tryd.underlying22 hiR hR0 hR1 hR2 rfl (by omega) (.slice A1 k c1) k vs (by rfl) o_W5.out ⟨W4.heap.size, 0, none⟩ 1 1 [.slice (some ⟨g2, 0, none⟩) (m + 1) cap2] (by rfl) (by rfl) (cell_one_new W4 _ _) (by simp [Value.oneCell']) (by omega) (by unfold maxLen; omega) (by omega) (by have := b_W5.out.size; omega) (W4.alloc (.cells #[.slice (some ⟨g2, 0, none⟩) (m + 1) cap2] 23)).heap.size rfl ?_
          intro g3 cap3 W6 hown6 hgrow6 hat6 hlt6
          have hfin := snoc_round hB.out hMv.out b_W4.out o_W4.out (by rw [hk2.out]) hown6 hgrow6
          rw [htk.out] at hfin
          replace hfin := Lib.hid hfin
          clear hown6 hgrow6 hat6 hlt6
          refine hK _ _ (HSw.out _ hfin.out.1) (fun _ _ => trivial) ?_
          try simp only [Act.put, Nat.zero_add, List.getElem_toArray, List.getElem_cons_zero, List.getElem_cons_succ, List.setIfInBounds_toArray, List.set_cons_zero, List.set_cons_succ]
          clear hK K
          refine D_one (i := 15) (by kernel_rfl) rfl ?_
          intro K hK
          rw [if_pos (by rfl)]
          go_simp
          refine hK _ _ (HSw.out _ hfin.out.1) (fun _ _ => trivial) ?_
          try simp only [Act.put, Nat.zero_add, List.getElem_toArray, List.getElem_cons_zero, List.getElem_cons_succ, List.setIfInBounds_toArray, List.set_cons_zero, List.set_cons_succ]
          clear hK K
          refine D_done (by kernel_rfl) ?_ _
          go_wp2
          go_roundw
          case rel => exact ⟨k + 1, by omega, by go_num, Lib.hid hfin.out.1, Lib.hid hfin.out.2⟩
          case measure => simp [intOf] <;> omega
      · intro K hK
        rw [if_pos (by rfl)]
        go_simp
        have b_W1 : Hid (Below wr.heap.size wr (Wd.alloc (.cells #[.int .i64 x] 3))) := Lib.hid (b_Wd.out.alloc (by have := b_Wd.out.size; omega) _)
        have z_W1 : (Wd.alloc (.cells #[.int .i64 x] 3)).heap.size = Wd.heap.size + 1 := World.size_alloc _ _
        have s_W1 : Hid (∀ j u, [Value.int .i64 x][j]? = some u → (Wd.alloc (.cells #[.int .i64 x] 3)).cell? ((⟨Wd.heap.size, 0, none⟩ : Addr).add j) = some u) := Lib.hid (cell_one_new Wd _ _)
        refine hK _ _ (HS.out _ b_W1.out) (fun _ _ => trivial) ?_
        try simp only [Act.put, Nat.zero_add, List.getElem_toArray, List.getElem_cons_zero, List.getElem_cons_succ, List.setIfInBounds_toArray, List.set_cons_zero, List.set_cons_succ]
        clear hK K
        generalize hg_W1 : Wd.alloc (.cells #[.int .i64 x] 3) = W1 at b_W1 z_W1 s_W1 ⊢
        replace hg_W1 := Lib.hid hg_W1
        replace z_W1 := Lib.hid z_W1
        refine D_one (i := 1) (by kernel_rfl) rfl ?_
        intro K hK
        rw [if_pos (by rfl)]
        go_simp
        have b_W2 : Hid (Below wr.heap.size wr (W1.alloc (.cells #[] 3))) := Lib.hid (b_W1.out.alloc (by have := b_W1.out.size; omega) _)
        have z_W2 : (W1.alloc (.cells #[] 3)).heap.size = W1.heap.size + 1 := World.size_alloc _ _
        have o_W2 : Hid ((W1.alloc (.cells #[] 3)).ownsRow wr.heap.size 3 1 (.slice (some ⟨W1.heap.size, 0, none⟩) 0 0) 0 []) := Lib.hid (World.ownsRow_made W1 #[] 0 (b_W1.out.size) (by unfold maxLen; omega) rfl)
        refine hK _ _ (HS.out _ b_W2.out) (fun _ _ => trivial) ?_
        try simp only [Act.put, Nat.zero_add, List.getElem_toArray, List.getElem_cons_zero, List.getElem_cons_succ, List.setIfInBounds_toArray, List.set_cons_zero, List.set_cons_succ]
        clear hK K
        have s_W2 : Hid (∀ j u, [Value.int .i64 x][j]? = some u → (W1.alloc (.cells #[] 3)).cell? ((⟨Wd.heap.size, 0, none⟩ : Addr).add j) = some u) := Lib.hid (fun j u hj => (((Below.refl W1.heap.size W1).alloc (Nat.le_refl _) _).cell (by have := z_W1.out; rw [add_off]; show Wd.heap.size < _; omega)).trans (s_W1.out j u hj))
        generalize hg_W2 : W1.alloc (.cells #[] 3) = W2 at b_W2 z_W2 s_W2 o_W2 ⊢
        replace hg_W2 := Lib.hid hg_W2
        replace z_W2 := Lib.hid z_W2
        refine D_one (i := 6) (by kernel_rfl) rfl ?_
        intro K hK
        refine step_append_rd (by rfl) _ _ (by rfl) wr.heap.size (.slice (some ⟨W1.heap.size, 0, none⟩) 0 0) (.slice Aa m da) 0 [] row (by rfl) (by rfl) o_W2.out (hnewsW.out _ b_W2.out) (by rw [hrl.out]; omega) (b_W2.out.size) ?_
        intro v6 W3 hown6 hgrow6 hat6
        simp only [Nat.zero_add, List.nil_append] at hown6
        rw [hrl.out] at hown6
        obtain ⟨A6, cap, rfl⟩ := own_shape hown6
        have b_W3 : Hid (Below wr.heap.size wr W3) := Lib.hid (b_W2.out.grown hgrow6 (b_W2.out.size) (fun q hq => (o_W2.out.lt q hq).1))
        have s_W3 : Hid (∀ j u, [Value.int .i64 x][j]? = some u → W3.cell? ((⟨Wd.heap.size, 0, none⟩ : Addr).add j) = some u) := Lib.hid (fun j u hj => ((hgrow6.cell_far _ (by have := z_W1.out; have := z_W2.out; rw [add_off]; show Wd.heap.size < _; omega) (by have := z_W1.out; have := z_W2.out; rw [add_off]; show some Wd.heap.size ≠ some W1.heap.size; simp; omega)).trans (s_W2.out j u hj)))
        have o_W3 := Lib.hid hown6
        clear hown6 hgrow6 hat6
        refine hK _ _ (HS.out _ b_W3.out) (fun _ _ => trivial) ?_
        try simp only [Act.put, Nat.zero_add, List.getElem_toArray, List.getElem_cons_zero, List.getElem_cons_succ, List.setIfInBounds_toArray, List.set_cons_zero, List.set_cons_succ]
        clear hK K
        refine D_one (i := 12) (by kernel_rfl) rfl ?_
        intro K hK
        refine step_append_lies _ (by rfl) _ _ _ (by rfl) wr.heap.size 3 iI _ 1 8 Tryd.underlying23 hiI hI0 hI1 hI2 rfl (by omega) (.slice A6 m cap) m (ints row) (by rfl) o_W3.out ⟨Wd.heap.size, 0, none⟩ 1 1 [.int .i64 x] (by rfl) (by rfl) s_W3.out (by simp [Value.oneCell']) (by omega) (by unfold maxLen; omega) (by omega) (b_W3.out.size) W3.heap.size rfl ?_
        intro g2 cap2 W4 hown4 hgrow4 hat4 hlt4
        have b_W4 : Hid (Below wr.heap.size wr W4) := Lib.hid (b_W3.out.grown hgrow4 (b_W3.out.size) (fun q hq => (o_W3.out.lt q hq).1))
        have o_W4 : Hid (OwnI W4 wr.heap.size (.slice (some ⟨g2, 0, none⟩) (m + 1) cap2) (row ++ [x])) := Lib.hid (by
          unfold OwnI
          rw [List.length_append, hrl.out, ints_append, List.length_singleton]
          exact hown4)
        clear hown4 hgrow4 hat4 hlt4
        refine hK _ _ (HS.out _ b_W4.out) (fun _ _ => trivial) ?_
        try simp only [Act.put, Nat.zero_add, List.getElem_toArray, List.getElem_cons_zero, List.getElem_cons_succ, List.setIfInBounds_toArray, List.set_cons_zero, List.set_cons_succ]
        clear hK K
        refine D_one (i := 13) (by kernel_rfl) rfl ?_
        intro K hK
        rw [if_pos (by rfl)]
        go_simp
        have b_W5 : Hid (Below wr.heap.size wr (W4.alloc (.cells #[.slice (some ⟨g2, 0, none⟩) (m + 1) cap2] 23))) := Lib.hid (b_W4.out.alloc b_W4.out.size _)
        refine hK _ _ (HS.out _ b_W5.out) (fun _ _ => trivial) ?_
        try simp only [Act.put, Nat.zero_add, List.getElem_toArray, List.getElem_cons_zero, List.getElem_cons_succ, List.setIfInBounds_toArray, List.set_cons_zero, List.set_cons_succ]
        clear hK K
        have o_W5 : Hid ((W4.alloc (.cells #[.slice (some ⟨g2, 0, none⟩) (m + 1) cap2] 23)).ownsRow w.heap.size 23 1 (.slice A1 k c1) k vs) := Lib.hid (by
          have := (hMv.out.kept b_W5.out).outer
          rwa [hk2.out] at this)
        refine D_one (i := 14) (by kernel_rfl) rfl ?_
        intro K hK
        refine step_append_lies _ (by rfl) _ _ _ (by rfl) w.heap.size 23 iR _ 1 24 Tryd.underlying22 hiR hR0 hR1 hR2 rfl (by omega) (.slice A1 k c1) k vs (by rfl) o_W5.out ⟨W4.heap.size, 0, none⟩ 1 1 [.slice (some ⟨g2, 0, none⟩) (m + 1) cap2] (by rfl) (by rfl) (cell_one_new W4 _ _) (by simp [Value.oneCell']) (by omega) (by unfold maxLen; omega) (by omega) (by have := b_W5.out.size; omega) (W4.alloc (.cells #[.slice (some ⟨g2, 0, none⟩) (m + 1) cap2] 23)).heap.size rfl ?_
        intro g3 cap3 W6 hown6 hgrow6 hat6 hlt6
        have hfin := snoc_round hB.out hMv.out b_W4.out o_W4.out (by rw [hk2.out]) hown6 hgrow6
        rw [htk.out] at hfin
        replace hfin := Lib.hid hfin
        clear hown6 hgrow6 hat6 hlt6
        refine hK _ _ (HSw.out _ hfin.out.1) (fun _ _ => trivial) ?_
        try simp only [Act.put, Nat.zero_add, List.getElem_toArray, List.getElem_cons_zero, List.getElem_cons_succ, List.setIfInBounds_toArray, List.set_cons_zero, List.set_cons_succ]
        clear hK K
        refine D_one (i := 15) (by kernel_rfl) rfl ?_
        intro K hK
        rw [if_pos (by rfl)]
        go_simp
        refine hK _ _ (HSw.out _ hfin.out.1) (fun _ _ => trivial) ?_
        try simp only [Act.put, Nat.zero_add, List.getElem_toArray, List.getElem_cons_zero, List.getElem_cons_succ, List.setIfInBounds_toArray, List.set_cons_zero, List.set_cons_succ]
        clear hK K
        refine D_done (by kernel_rfl) ?_ _
        go_wp2
        go_roundw
        case rel => exact ⟨k + 1, by omega, by go_num, Lib.hid hfin.out.1, Lib.hid hfin.out.2⟩
        case measure => simp [intOf] <;> omega
    · obtain rfl : n = k := by omega
      obtain ⟨vs, hMv⟩ := hM.out
      have htl : (augM rs b).take n = augM rs b := List.take_of_length_le (by rw [augM_len, hr0.out]; exact Nat.le_refl _)
      rw [htl] at hMv
      obtain ⟨A1, c1, rfl⟩ := own_shape hMv.outer
      have hkl : (augM rs b).length = n := by rw [augM_len, hr0.out]
      rw [hkl] at hMv ⊢
      have hred := Lib.hid (reduce_any (augM rs b) n (m + 1) m w.heap.size _ vs wr hMv (okM_aug hok'.out hbb.out hbl.out) (by omega) (by omega) (by omega) hB.out.size)
      have hX0 : Hid (sysM rs b m = solveS (augM rs b) (List.range m).reverse false) := Lib.hid rfl
      have hprow := Lib.hid (solveS_rows (augM rs b) (List.range m).reverse false)
      have hpcol := Lib.hid (solveS_piv (augM rs b) (List.range m).reverse false)
      generalize solveS (augM rs b) (List.range m).reverse false = S at hred hX0 hprow hpcol
      have hmk := run_make_row' (P := Tryd.prog) 23 3 _ _ Tryd.underlying23 infoI rfl .i64 .i64 m (by omega) (by omega)
      replace hkl := Lib.hid hkl
      clear hM htl hMv
      go_wp2_with fail
      refine hred.out.mono ?_; rintro e W ⟨p, rfl, hI⟩
      clear hred
      obtain ⟨vs2, hO, hlo⟩ := hI.mem
      obtain ⟨Ap, cp, rfl⟩ := own_shape hI.piv
      have hpl : (natI (S.piv.map (·.2))).length = S.piv.length := by simp [natI]
      have hpv := Lib.hid hI.piv
      have hokS := Lib.hid hI.ok
      have hfew := hI.few
      have hBr := hB.out.size
      have hBW := Lib.hid (hB.out.trans hI.below |> fun h => h)
      rw [hpl] at hpv ⊢
      generalize hL : S.piv.length = L at *
      replace hL := Lib.hid hL
      replace hpl := Lib.hid hpl
      replace hO := Lib.hid hO
      have hvl : vs2.length = n := by rw [hO.out.len, hokS.out.1]
      obtain ⟨M, hM, hmM⟩ : ∃ M, Hid (m + 1 = M) ∧ m < M := ⟨m + 1, Lib.hid rfl, by omega⟩
      have hrow : Hid (∀ x, x < n → ∃ g gx cx, A1 = some ⟨g, 0, none⟩ ∧ W.cell? ⟨g, x, none⟩ = some (.slice (some ⟨gx, 0, none⟩) M cx) ∧ W.cell? ⟨gx, m, none⟩ = some (.int .i64 (gM S.rows x m))) := Lib.hid (fun x hx => by
        have hr : S.rows[x]? = some (S.rows.getD x []) := by rw [List.getD_eq_getElem?_getD, List.getElem?_eq_getElem (by rw [hokS.out.1]; exact hx)]; rfl
        have hu : vs2[x]? = some vs2[x] := List.getElem?_eq_getElem (by omega)
        obtain ⟨g, c2, e, hb, -, hcell, hf⟩ := hO.out.at_ hr hu
        obtain ⟨gx, cx, e2, -, -, hc2, -⟩ := hO.out.num hr hu (k := m) (by rw [hokS.out.row hx]; omega)
        simp only [Value.slice.injEq] at e
        obtain ⟨rfl, -, -⟩ := e
        rw [hokS.out.row hx, hM.out] at e2
        rw [e2] at hcell
        exact ⟨g, gx, cx, rfl, hcell, hc2⟩)
      clear hI hlo hvl
      go_wp2
      go_loop [11] (fun ii => ∃ i : Nat, L ≤ i ∧ i ≤ n ∧ ii = .int .i64 i ∧ Hid (∀ x, L ≤ x → x < i → gM S.rows x m = 0)) (fun ii => n - (intOf ii).toNat)
      case atStart => exact ⟨L, Nat.le_refl _, hfew, rfl, Lib.hid (fun x h1 h2 => by omega)⟩
      case round =>
        obtain ⟨i, hi1, hi2, rfl, hz⟩ := hrel
        by_cases hin : i < n
        · obtain ⟨g, gx, cx, rfl, hc1, hc2⟩ := hrow.out i hin
          have i1 : (i : Int) < (n : Int) := by omega
          have i0 : (0 : Int) ≤ (i : Int) := by omega
          have mm : (m : Int) < (M : Int) := by omega
          have m0 : (0 : Int) ≤ (m : Int) := by omega
          by_cases hg : gM S.rows i m = 0
          · have hz2 : Hid (∀ x, L ≤ x → x < i + 1 → gM S.rows x m = 0) := Lib.hid (fun x h1 h2 => by
              by_cases e : x = i
              · rw [e]; exact hg
              · exact hz.out x h1 (by omega))
            rw [hg] at hc2
            replace hg := Lib.hid hg
            go_wp2
            go_round
            case rel => exact ⟨i + 1, by omega, by omega, by go_num, hz2⟩
            case measure => simp [intOf] <;> omega
          · have hres : Hid (solvedM rs b m = none) := Lib.hid (solvedM_none hX0.out hokS.out.1 hL.out hi1 hin hg)
            have hne : (gM S.rows i m != 0) = true := by rw [bne_iff_ne]; exact hg
            replace hg := Lib.hid hg
            generalize gM S.rows i m = y at hc2 hne
            go_wp2
            go_ret2
            refine ⟨⟨_, by rw [hres.out]; rfl, ?_⟩, hBW.out⟩
            rw [hres.out]
            exact OwnI_nil _ _
        · obtain rfl : n = i := by omega
          have hres : Hid (solvedM rs b m = some (fillX S m)) := Lib.hid (solvedM_some hX0.out hokS.out.1 hL.out (fun x h1 h2 => hz.out x h1 h2))
          have h0 := Lib.hid (OwnI_made W W.heap.size m (Nat.le_refl _) (by unfold maxLen; omega))
          have hB0 : Hid (Below W.heap.size W (W.alloc (.cells (madeCells #[.int .i64 0] m) 3))) := Lib.hid ((Below.refl _ _).alloc (Nat.le_refl _) _)
          clear hz
          go_wp2
          generalize W.alloc (.cells (madeCells #[.int .i64 0] m) 3) = w1 at h0 hB0 ⊢
          go_loopw [13] (fun ii wr => ∃ i : Nat, i ≤ L ∧ ii = .int .i64 i ∧ Hid (Below W.heap.size W wr) ∧ Hid (OwnI wr W.heap.size (.slice (some ⟨W.heap.size, 0, none⟩) m m) (xP S m i))) (fun ii _ => L - (intOf ii).toNat)
          case atStart => exact ⟨0, Nat.zero_le _, rfl, hB0, Lib.hid (by have := h0.out; rwa [show xP S m 0 = List.replicate m 0 from rfl])⟩
          case round =>
            obtain ⟨i, hi, rfl, hB2, hX⟩ := hrel
            rename World => wr2
            by_cases hlt : i < L
            · obtain ⟨g, gx, cx, rfl, hc1, hc2⟩ := hrow.out i (by omega)
              obtain ⟨pp, hpi⟩ : ∃ pp, S.piv[i]? = some pp := ⟨S.piv[i]'(by rw [hL.out]; exact hlt), List.getElem?_eq_getElem _⟩
              have hp1 := hprow.out i pp hpi
              have hp2 : pp.2 < m := by
                have := (hpcol.out pp (List.mem_of_getElem? hpi)).2
                simpa using this
              obtain ⟨q1, q2⟩ := pp
              simp only at hp1 hp2
              subst hp1
              obtain ⟨g5, e5, hcp⟩ : ∃ g5, Ap = some ⟨g5, 0, none⟩ ∧ W.cell? ⟨g5, q1, none⟩ = some (.int .i64 q2) := by
                have hown := hpv.out
                unfold OwnI at hown
                rw [hpl.out] at hown
                obtain ⟨g5, c5, e5, -, -⟩ := hown.form (by omega)
                simp only [Value.slice.injEq] at e5
                obtain ⟨rfl, -, -⟩ := e5
                refine ⟨g5, rfl, ?_⟩
                rw [hown.cellAt q1 (by omega), ints_get]
                simp [natI, hpi]
              subst e5
              have hc1' := (hB2.out.cell (World.block_lt_of_cell? W _ hc1)).trans hc1
              have hc2' := (hB2.out.cell (World.block_lt_of_cell? W _ hc2)).trans hc2
              have hcp' := (hB2.out.cell (World.block_lt_of_cell? W _ hcp)).trans hcp
              obtain ⟨hxc, hxf⟩ := hX.out.num (k := q2) (by rw [xP_len]; exact hp2)
              have hput := (hX.out.below ((Below.refl wr2.heap.size wr2).drew)).put q2 (gM S.rows q1 m)
              rw [show (xP S m q1).set q2 (gM S.rows q1 m) = xP S m (q1 + 1) from (xP_succ S m hpi).symm] at hput
              have hB3 : Hid (Below W.heap.size W (wr2.drew.setCell ⟨W.heap.size, q2, none⟩ (.int .i64 (gM S.rows q1 m)))) := Lib.hid (hB2.out.drew.setCell (Nat.le_refl _) _)
              replace hput := Lib.hid hput
              clear hc1 hc2 hcp hpi
              generalize gM S.rows q1 m = y at hc2' hput hB3
              generalize (xP S m q1).getD q2 0 = z at hxc
              have q11 : (q1 : Int) < (L : Int) := by omega
              have q12 : (q1 : Int) < (n : Int) := by omega
              have q10 : (0 : Int) ≤ (q1 : Int) := by omega
              have q21 : (q2 : Int) < (m : Int) := by omega
              have q20 : (0 : Int) ≤ (q2 : Int) := by omega
              have mm : (m : Int) < (M : Int) := by omega
              have m0 : (0 : Int) ≤ (m : Int) := by omega
              go_wp2
              go_still_tail 13, (by kernel_rfl)
              change wpList _ _ _ _ _ wr2.drew
              replace hxc : wr2.drew.cell? _ = _ := hxc
              replace hxf : wr2.drew.frozen? _ = _ := hxf
              clear hc1' hc2' hcp' hX hB2
              generalize wr2.drew = wd at hxc hxf hput hB3 ⊢
              go_wp2
              go_roundw
              case rel => exact ⟨q1 + 1, by omega, by go_num, hB3, hput⟩
              case measure => simp [intOf] <;> omega
            · obtain rfl : L = i := by omega
              go_wp2
              go_ret2
              have hsz := hBW.out.size
              refine ⟨⟨_, by rw [hres.out]; rfl, ?_⟩, hBW.out.trans (hB2.out.mono hsz)⟩
              rw [hres.out]
              have := hX.out
              rw [xP, show S.piv.take L = S.piv from List.take_of_length_le (by rw [hL.out]; exact Nat.le_refl _)] at this
              exact this.base hsz
end Go.Proofs.YtfljkcmijnhgkaaDoor
