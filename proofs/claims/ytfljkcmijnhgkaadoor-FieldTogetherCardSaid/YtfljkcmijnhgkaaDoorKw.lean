/- The reference's fits: its contract. The reference's Fit, Least and made: their contracts. The reference's Least, and made: their contracts. field.Short: its contract. -/
import Derived.Test.YtfljkcmijnhgkaaDoorKu
import Derived.Test.YtfljkcmijnhgkaaDoorKj
import Derived.Test.YtfljkcmijnhgkaaDoorKv
import Derived.Test.YtfljkcmijnhgkaaDoorKk
namespace Go.Proofs.YtfljkcmijnhgkaaDoor
open Go.RowKit
set_option linter.unusedSimpArgs false

/-- Rows and numbers of the call's own, in blocks apart. -/
structure FitSt (base : Nat) (W : World) (rv bv : Value) (rs : List (List Int)) (bs : List Int) (vs : List Value) : Prop where
  m : OwnMv W base rv rs vs
  b : OwnI W base bv bs
  apart : ∀ u ∈ vs, u.ownBlock = none ∨ u.ownBlock ≠ bv.ownBlock
theorem FitSt.kept {base : Nat} {W W' : World} {rv bv : Value} {rs : List (List Int)} {bs : List Int} {vs : List Value} (h : FitSt base W rv bv rs bs vs) (hb : Below W.heap.size W W') : FitSt base W' rv bv rs bs vs :=
  ⟨h.m.kept hb, h.b.below hb, h.apart⟩
theorem FitSt.row {base lo n : Nat} {W W' : World} {rv rv' bv rowv : Value} {rs : List (List Int)} {r bs : List Int} {vs : List Value} (h : FitSt base W rv bv rs bs vs) (hr : OwnI W lo rowv r) (hlo : base ≤ lo)
    (hnew : ∀ q, rowv.ownBlock = some q → (∀ u ∈ vs, u.ownBlock ≠ some q) ∧ bv.ownBlock ≠ some q) (hn : n = rs.length + 1) (hown : W'.ownsRow base 23 1 rv' n (vs ++ [rowv])) (hg : W.grownBy W' rv.ownBlock) : FitSt base W' rv' bv (rs ++ [r]) bs (vs ++ [rowv]) := by
  refine ⟨h.m.snoc (hr.base hlo) (fun x hx => ?_) hown hn hg, OwnI.base (World.ownsRow.kept h.b hg (own_ne h.b h.m.outer (by decide))) (Nat.le_refl _), fun u hu => ?_⟩
  · rcases hq : rowv.ownBlock with _ | q
    · by_cases hx0 : x.ownBlock = none
      · exact .inl hx0
      · exact .inr hx0
    · exact .inr ((hnew q hq).1 x hx)
  · rcases List.mem_append.1 hu with hu | hu
    · exact h.apart u hu
    · obtain rfl : u = rowv := by simpa using hu
      rcases hq : u.ownBlock with _ | q
      · exact .inl rfl
      · exact .inr (fun e => (hnew q hq).2 e.symm)
theorem FitSt.num {base n g : Nat} {W W' : World} {rv bv bv' : Value} {rs : List (List Int)} {bs : List Int} {x : Int} {vs : List Value} (h : FitSt base W rv bv rs bs vs) (hn : n = bs.length + 1)
    (hown : W'.ownsRow base 3 1 bv' n (ints bs ++ [.int .i64 x])) (hg : W.grownBy W' bv.ownBlock) (hat : bv.ownBlock = some g ∨ g = W.heap.size) (hbv : bv'.ownBlock = some g) : FitSt base W' rv bv' rs (bs ++ [x]) vs := by
  refine ⟨h.m.grownBy hg (own_ne h.m.outer h.b (by decide)) h.apart, ?_, fun u hu => ?_⟩
  · unfold OwnI; rw [List.length_append, List.length_singleton, ints_append, ← hn]; exact hown
  · rcases hq : u.ownBlock with _ | q
    · exact .inl rfl
    · refine .inr fun e => ?_
      rw [hbv] at e
      rcases hat with hat | hat
      · rcases h.apart u hu with h2 | h2
        · rw [hq] at h2; cases h2
        · rw [hq, hat] at h2; exact h2 e
      · have := (h.m.ge u hu q hq).2
        simp only [Option.some.injEq] at e; omega
/-- A row, its first k numbers filled. -/
def rowP (f : Nat → Int) (o k : Nat) : List Int := (List.range o).map fun j => if j < k then f j else 0
theorem rowP_len (f : Nat → Int) (o k : Nat) : (rowP f o k).length = o := by simp [rowP]
theorem rowP_zero (f : Nat → Int) (o : Nat) : rowP f o 0 = List.replicate o 0 := by
  apply List.ext_getElem?; intro j
  simp only [rowP, List.getElem?_map, List.getElem?_replicate, Nat.not_lt_zero, if_false]
  by_cases h : j < o
  · rw [List.getElem?_range h, if_pos h]; rfl
  · rw [List.getElem?_eq_none (by simpa using h), if_neg h]; rfl
theorem rowP_set (f : Nat → Int) {o k : Nat} (h : k < o) : (rowP f o k).set k (f k) = rowP f o (k + 1) := by
  apply List.ext_getElem?; intro j
  rw [List.getElem?_set]
  simp only [rowP, List.getElem?_map, List.length_map, List.length_range]
  by_cases hj : j < o
  · rw [List.getElem?_range hj]
    by_cases e : k = j
    · subst e; simp [h]
    · simp only [if_neg e, Option.map_some]
      by_cases h2 : j < k
      · rw [if_pos h2, if_pos (by omega)]
      · rw [if_neg h2, if_neg (by omega)]
  · rw [List.getElem?_eq_none (l := List.range o) (by simpa using hj), if_neg (by omega)]; rfl
theorem rowP_end (f : Nat → Int) (o : Nat) : rowP f o o = (List.range o).map f := by
  unfold rowP
  exact List.map_congr_left fun j hj => if_pos (List.mem_range.1 hj)
theorem mat_take (f : Nat → Nat → Int) {n m k : Nat} (hk : k < n) : (mat f n m).take k ++ [(List.range m).map (f k)] = (mat f n m).take (k + 1) := by
  have hl : k < (mat f n m).length := by rw [mat_len]; exact hk
  rw [List.take_succ_eq_append_getElem hl]
  simp [mat]
theorem drop_take_snoc (l : List Int) {o k : Nat} (h : o + k < l.length) : (l.drop o).take k ++ [l.getD (o + k) 0] = (l.drop o).take (k + 1) := by
  have hl : k < (l.drop o).length := by rw [List.length_drop]; omega
  rw [List.take_succ_eq_append_getElem hl, List.getElem_drop, List.getD_eq_getElem?_getD, List.getElem?_eq_getElem h]; rfl
set_option maxRecDepth 100000 in
set_option maxHeartbeats 6400000 in
theorem fits_any (l : List Int) (o : Nat) (v : Value) (w : World) (h : RdI w v l) (hl : l.length ≤ 900) (ho : o ≤ l.length) (hb : ∀ x ∈ l, 0 ≤ x ∧ x < 65521) :
    Calls Tryd.prog 146 #[v, .int .i64 o] w fun e w' => (∃ p, e = .returned (.tuple #[p, .bool (fitO l o).isSome]) ∧ OwnI w' w.heap.size p ((fitO l o).getD [])) ∧ Below w.heap.size w w' := by
  obtain ⟨iI, hiI, hI0, hI1, hI2⟩ := info_parts infoI
  obtain ⟨iR, hiR, hR0, hR1, hR2⟩ := info_parts infoR
  obtain ⟨A, c, rfl, h1, h2, h3⟩ := h.open_
  have hmk := run_make_row' (P := Tryd.prog) 23 3 _ _ Tryd.underlying23 infoI rfl .i64 .i64 o (by omega) (by omega)
  have hsol := Lib.hid (fun rv bv W hrv hbv => Solution_any (rowsL l o) (l.drop o) (l.length - o) o rv bv W hrv hbv (okM_rowsL hb o) (by simp) (fun x hx => hb x (List.mem_of_mem_drop hx)) (by omega) (by omega))
  have hF : Hid (fitO l o = solvedM (rowsL l o) (l.drop o) o) := Lib.hid rfl
  have hrl := Lib.hid (fun r (hr : r ∈ rowsL l o) => ((okM_rowsL hb o).2 r hr).1)
  have hlr := Lib.hid (show (rowsL l o).length = l.length - o by unfold rowsL; exact mat_len _ _ _)
  have hrt := Lib.hid (fun k (hk : k < l.length - o) => show (rowsL l o).take k ++ [(List.range o).map fun j => l.getD (o + k - 1 - j) 0] = (rowsL l o).take (k + 1) from mat_take _ hk)
  have hdt := Lib.hid (fun k (hk : o + k < l.length) => drop_take_snoc l hk)
  have hdl := Lib.hid (show (l.drop o).length = l.length - o by simp)
  generalize rowsL l o = RS at *
  generalize l.drop o = BS at *
  generalize fitO l o = FO at *
  have hx := Lib.hid (fun k (hk : k < l.length) => h3 k hk)
  clear h3 h hb
  obtain ⟨f, hf⟩ : ∃ f : Nat → Int, f = fun k => l.getD k 0 := ⟨_, rfl⟩
  have hfe : ∀ k, l.getD k 0 = f k := fun k => by rw [hf]
  simp only [hfe] at hx hrt hdt
  clear hf hfe
  generalize l.length = N at *
  go_enter Tryd.func146, Tryd.ntmps146
  go_wp2
  go_loopw [6, 7, 8] (fun rv bv ii wr => ∃ k : Nat, k ≤ N - o ∧ ii = .int .i64 ((o + k : Nat) : Int) ∧ Hid (Below w.heap.size w wr) ∧ Hid (∃ vs, FitSt w.heap.size wr rv bv (RS.take k) (BS.take k) vs)) (fun _ _ ii _ => N - (intOf ii).toNat)
  case atStart => exact ⟨0, Nat.zero_le _, by simp, Lib.hid (Below.refl _ _), Lib.hid ⟨[], by rw [List.take_zero, List.take_zero]; exact ⟨OwnMv_nil _ _, OwnI_nil _ _, fun u hu => by cases hu⟩⟩⟩
  case round =>
    obtain ⟨k, hk, rfl, hB, hM⟩ := hrel
    rename Value => bv
    rename_i rv
    by_cases hlt : o + k < N
    · have hkl : (RS.take k).length = k := by rw [List.length_take, hlr.out]; omega
      have hbl : (BS.take k).length = k := by rw [List.length_take, hdl.out]; omega
      have hrt1 := Lib.hid (hrt.out k (by omega))
      have hdt1 := Lib.hid (hdt.out k hlt)
      obtain ⟨vs, hSt⟩ := hM.out
      obtain ⟨A1, c1, rfl⟩ := own_shape hSt.m.outer
      obtain ⟨B1, d1, rfl⟩ := own_shape hSt.b
      rw [hkl, hbl] at hSt ⊢
      have hvs : vs.length = k := by rw [hSt.m.len, hkl]
      have hrvl : Hid (∀ q, (Value.slice A1 k c1).ownBlock = some q → q < wr.heap.size) := Lib.hid (fun q hq => by
        have := hSt.m.outer; rw [hkl] at this; exact (this.lt q hq).2)
      have hbvl : Hid (∀ q, (Value.slice B1 k d1).ownBlock = some q → q < wr.heap.size) := Lib.hid (fun q hq => by
        have := hSt.b; unfold OwnI at this; rw [hbl] at this; exact (this.lt q hq).2)
      have hvsl : Hid (∀ u ∈ vs, ∀ q, u.ownBlock = some q → q < wr.heap.size) := Lib.hid (fun u hu q hq => (hSt.m.ge u hu q hq).2)
      replace hSt := Lib.hid hSt
      replace hkl := Lib.hid hkl
      replace hbl := Lib.hid hbl
      have hBs := hB.out.size
      have h0 := Lib.hid (OwnI_made wr wr.heap.size o (Nat.le_refl _) (by unfold maxLen; omega))
      have hB0 : Hid (Below wr.heap.size wr (wr.alloc (.cells (madeCells #[.int .i64 0] o) 3))) := Lib.hid ((Below.refl _ _).alloc (Nat.le_refl _) _)
      have n1 : ((o + k : Nat) : Int) < (N : Int) := by omega
      have n0 : (0 : Int) ≤ ((o + k : Nat) : Int) := by omega
      clear hM hvs
      generalize hn : o + k = n at *
      replace hn := Lib.hid hn
      go_wp2
      generalize wr.alloc (.cells (madeCells #[.int .i64 0] o) 3) = w1 at h0 hB0 ⊢
      go_loopw [10] (fun jj wr2 => ∃ j : Nat, j ≤ o ∧ jj = .int .i64 j ∧ Hid (Below wr.heap.size wr wr2) ∧ Hid (OwnI wr2 wr.heap.size (.slice (some ⟨wr.heap.size, 0, none⟩) o o) (rowP (fun j => f (n - 1 - j)) o j))) (fun jj _ => o - (intOf jj).toNat)
      case atStart => exact ⟨0, Nat.zero_le _, rfl, hB0, Lib.hid (by rw [rowP_zero]; exact h0.out)⟩
      case round =>
        obtain ⟨j, hj, rfl, hB2, hX⟩ := hrel
        rename World => wr2
        by_cases hjo : j < o
        · obtain ⟨bb, ob, rfl, hc⟩ := hx.out (n - 1 - j) (by omega)
          have hc' := ((hB.out.trans (hB2.out.mono hBs)).cell (World.block_lt_of_cell? w _ hc)).trans hc
          obtain ⟨hxc, hxf⟩ := hX.out.num (k := j) (by rw [rowP_len]; exact hjo)
          have hput := hX.out.put j (f (n - 1 - j))
          rw [rowP_set (fun j => f (n - 1 - j)) hjo] at hput
          have hB3 : Hid (Below wr.heap.size wr (wr2.setCell ⟨wr.heap.size, j, none⟩ (.int .i64 (f (n - 1 - j))))) := Lib.hid (hB2.out.setCell (Nat.le_refl _) _)
          replace hput := Lib.hid hput
          clear hc hX hB2
          have e1 : ((n : Int) - 1 - (j : Int)) = ((n - 1 - j : Nat) : Int) := by have := hn.out; omega
          generalize f (n - 1 - j) = y at *
          generalize (rowP (fun j => f (n - 1 - j)) o j).getD j 0 = z at hxc
          have q1 : (j : Int) < (o : Int) := by omega
          have q0 : (0 : Int) ≤ (j : Int) := by omega
          have q2 : ((n - 1 - j : Nat) : Int) < (N : Int) := by omega
          have q3 : (0 : Int) ≤ ((n - 1 - j : Nat) : Int) := by omega
          generalize hp : n - 1 - j = p at *
          replace hp := Lib.hid hp
          go_wp2
          go_roundw
          case rel => exact ⟨j + 1, by omega, by go_num, hB3, hput⟩
          case measure => simp [intOf] <;> omega
        · obtain rfl : j = o := by omega
          rw [rowP_end] at hX
          have hrw : Hid ((List.range j).map (fun k => f (n - 1 - k)) = (List.range j).map fun j => f (n - 1 - j)) := Lib.hid rfl
          obtain ⟨row, hrow⟩ : ∃ row, row = (List.range j).map fun j => f (n - 1 - j) := ⟨_, rfl⟩
          rw [← hrow] at hX hrt1
          obtain ⟨bx, ox, rfl, hcx⟩ := hx.out n (by omega)
          have HSw : Hid (∀ W, Below w.heap.size w W → W.cell? ⟨bx, ox + n, none⟩ = some (.int .i64 (f n))) := Lib.hid (fun W hW => (hW.cell (World.block_lt_of_cell? w _ hcx)).trans hcx)
          have tw := Lib.hid (hB.out.trans (hB2.out.mono hBs))
          have sd := Lib.hid (hSt.out.kept hB2.out)
          have zw := hB2.out.size
          have hjl : Hid (row.length = j) := Lib.hid (by rw [hrow]; simp)
          clear hcx hrow hrw hmk
          generalize f n = x at *
          have HS0 := HSw.out wr2.drew tw.out.drew
          go_wp2
          refine D_begin (fun w' => w'.cell? ⟨bx, ox + n, none⟩ = some (.int .i64 x)) (fun _ => True) 12 (by kernel_rfl) ?_
          change wpAnyD _ _ _ _ _ _ _ _ _ _ wr2.drew
          simp only [List.size_toArray, List.length_cons, List.length_nil, Nat.reduceAdd, Array.replicate_succ, Array.replicate_zero, List.push_toArray, List.append_toArray, List.nil_append, List.cons_append]
          refine D_take (i := 0) (v := ?_) rfl (by kernel_rfl) (by kernel_rfl) (by kernel_rfl) (by kernel_rfl) (fun _ _ _ h => h) (Or.inl ⟨by rfl, ?_⟩) HS0 (fun _ => trivial) ?_
          rotate_left; · intro w1 hw1; go_simp; try with_reducible rfl
          try simp only [Act.put, List.getElem_toArray, List.getElem_cons_zero, List.getElem_cons_succ, List.setIfInBounds_toArray, List.set_cons_zero, List.set_cons_succ]
          refine D_take (i := 1) (v := ?_) rfl (by kernel_rfl) (by kernel_rfl) (by kernel_rfl) (by kernel_rfl) (fun _ _ _ h => h) (Or.inl ⟨by rfl, ?_⟩) HS0 (fun _ => trivial) ?_
          rotate_left; · intro w1 hw1; go_simp; try with_reducible rfl
          try simp only [Act.put, List.getElem_toArray, List.getElem_cons_zero, List.getElem_cons_succ, List.setIfInBounds_toArray, List.set_cons_zero, List.set_cons_succ]
          refine D_take (i := 4) (v := ?_) rfl (by kernel_rfl) (by kernel_rfl) (by kernel_rfl) (by kernel_rfl) (fun _ _ _ h => h) (Or.inl ⟨by rfl, ?_⟩) HS0 (fun _ => trivial) ?_
          rotate_left; · intro w1 hw1; go_simp; try with_reducible rfl
          try simp only [Act.put, List.getElem_toArray, List.getElem_cons_zero, List.getElem_cons_succ, List.setIfInBounds_toArray, List.set_cons_zero, List.set_cons_succ]
          refine D_take (i := 5) (v := ?_) rfl (by kernel_rfl) (by kernel_rfl) (by kernel_rfl) (by kernel_rfl) (fun _ _ _ h => h) (Or.inl ⟨by rfl, ?_⟩) HS0 (fun _ => trivial) ?_
          rotate_left; · intro w1 hw1; go_simp; try with_reducible rfl
          try simp only [Act.put, List.getElem_toArray, List.getElem_cons_zero, List.getElem_cons_succ, List.setIfInBounds_toArray, List.set_cons_zero, List.set_cons_succ]
          refine D_take (i := 6) (v := ?_) rfl (by kernel_rfl) (by kernel_rfl) (by kernel_rfl) (by kernel_rfl) (fun _ _ _ h => h) (Or.inl ⟨by rfl, ?_⟩) HS0 (fun _ => trivial) ?_
          rotate_left; · intro w1 hw1; go_simp; try with_reducible rfl
          try simp only [Act.put, List.getElem_toArray, List.getElem_cons_zero, List.getElem_cons_succ, List.setIfInBounds_toArray, List.set_cons_zero, List.set_cons_succ]
          refine D_take (i := 7) (v := ?_) rfl (by kernel_rfl) (by kernel_rfl) (by kernel_rfl) (by kernel_rfl) (fun _ _ _ h => h) (Or.inl ⟨by rfl, ?_⟩) HS0 (fun _ => trivial) ?_
          rotate_left; · intro w1 hw1; go_simp; try with_reducible rfl
          try simp only [Act.put, List.getElem_toArray, List.getElem_cons_zero, List.getElem_cons_succ, List.setIfInBounds_toArray, List.set_cons_zero, List.set_cons_succ]
          refine D_take (i := 8) (v := ?_) rfl (by kernel_rfl) (by kernel_rfl) (by kernel_rfl) (by kernel_rfl) (fun _ _ _ h => h) (Or.inl ⟨by rfl, ?_⟩) HS0 (fun _ => trivial) ?_
          rotate_left; · intro w1 hw1; go_simp; try with_reducible rfl
          try simp only [Act.put, List.getElem_toArray, List.getElem_cons_zero, List.getElem_cons_succ, List.setIfInBounds_toArray, List.set_cons_zero, List.set_cons_succ]
          replace tw := Lib.hid tw.out.drew
          have hdd : Below wr2.heap.size wr2 wr2.drew := (Below.refl _ _).drew
          replace sd := Lib.hid (sd.out.kept hdd)
          replace hX := Lib.hid (hX.out.below hdd)
          have zd : wr.heap.size ≤ wr2.drew.heap.size := zw
          clear hdd HS0 hB2 zw
          generalize wr2.drew = Wd at *
          have t_Wd := tw
          have st_Wd := sd
          have r_Wd := hX
          have zd_Wd := zd
          clear tw sd hX zd
          refine D_two (i := 2) (j := 9) (by kernel_rfl) rfl rfl ?_ ?_
          · intro K hK
            rw [if_pos (by rfl)]
            go_simp
            have hb : Below Wd.heap.size Wd (Wd.alloc (.cells #[.slice (some ⟨wr.heap.size, 0, none⟩) j j] 23)) := (Below.refl _ _).alloc (Nat.le_refl _) _
            have t_W1 := Lib.hid (t_Wd.out.alloc (t_Wd.out.size) (.cells #[.slice (some ⟨wr.heap.size, 0, none⟩) j j] 23))
            have st_W1 := Lib.hid (st_Wd.out.kept hb)
            have zd_W1 : wr.heap.size ≤ (Wd.alloc (.cells #[.slice (some ⟨wr.heap.size, 0, none⟩) j j] 23)).heap.size := Nat.le_trans zd_Wd hb.size
            have r_W1 := Lib.hid (r_Wd.out.below hb)
            have s2_W1 : Hid (∀ (q : Nat) u, [.slice (some ⟨wr.heap.size, 0, none⟩) j j][q]? = some u → (Wd.alloc (.cells #[.slice (some ⟨wr.heap.size, 0, none⟩) j j] 23)).cell? ((⟨Wd.heap.size, 0, none⟩ : Addr).add q) = some u) := Lib.hid (cell_one_new Wd _ _)
            have l2_W1 : Wd.heap.size < (Wd.alloc (.cells #[.slice (some ⟨wr.heap.size, 0, none⟩) j j] 23)).heap.size := by simp
            refine hK _ _ (HSw.out _ t_W1.out) (fun _ _ => trivial) ?_
            try simp only [Act.put, Nat.zero_add, List.getElem_toArray, List.getElem_cons_zero, List.getElem_cons_succ, List.setIfInBounds_toArray, List.set_cons_zero, List.set_cons_succ]
            clear hK K hb
            generalize hg_W1 : Wd.alloc (.cells #[.slice (some ⟨wr.heap.size, 0, none⟩) j j] 23) = W1 at t_W1 st_W1 zd_W1 r_W1 s2_W1 l2_W1 ⊢
            replace hg_W1 := Lib.hid hg_W1
            refine D_two (i := 3) (j := 9) (by kernel_rfl) rfl rfl ?_ ?_
            · intro K hK
              refine step_append_lies _ (by rfl) _ _ _ (by rfl) w.heap.size 23 iR _ 1 24 Tryd.underlying22 hiR hR0 hR1 hR2 rfl (by omega) (.slice A1 k c1) k vs (by rfl) (by have := st_W1.out.m.outer; rwa [hkl.out] at this) ⟨Wd.heap.size, 0, none⟩ 1 1 [.slice (some ⟨wr.heap.size, 0, none⟩) j j] (by rfl) (by rfl) s2_W1.out (by simp [Value.oneCell']) (by omega) (by unfold maxLen; omega) (by omega) (t_W1.out.size) W1.heap.size rfl ?_
              intro g3 cap3 W2 hown3 hgrow3 hat3 hlt3
              have t_W2 := Lib.hid (t_W1.out.grown hgrow3 (t_W1.out.size) (fun q hq => by have := st_W1.out.m.outer; rw [hkl.out] at this; exact (this.lt q hq).1))
              have st_W2 := Lib.hid (st_W1.out.row r_W1.out hBs (fun q hq => by have e : wr.heap.size = q := (by simpa [Value.ownBlock] using hq); exact ⟨fun u hu hc => by have := hvsl.out u hu q hc; omega, fun hc => by have := hbvl.out q hc; omega⟩) (by rw [hkl.out]) hown3 hgrow3)
              have zd_W2 : wr.heap.size ≤ W2.heap.size := Nat.le_trans zd_W1 hgrow3.size
              clear hown3 hgrow3 hat3 hlt3
              refine hK _ _ (HSw.out _ t_W2.out) (fun _ _ => trivial) ?_
              try simp only [Act.put, Nat.zero_add, List.getElem_toArray, List.getElem_cons_zero, List.getElem_cons_succ, List.setIfInBounds_toArray, List.set_cons_zero, List.set_cons_succ]
              clear hK K
              refine D_one (i := 9) (by kernel_rfl) rfl ?_
              intro K hK
              rw [if_pos (by rfl)]
              go_simp
              have hb : Below W2.heap.size W2 (W2.alloc (.cells #[.int .i64 x] 3)) := (Below.refl _ _).alloc (Nat.le_refl _) _
              have t_W3 := Lib.hid (t_W2.out.alloc (t_W2.out.size) (.cells #[.int .i64 x] 3))
              have st_W3 := Lib.hid (st_W2.out.kept hb)
              have zd_W3 : wr.heap.size ≤ (W2.alloc (.cells #[.int .i64 x] 3)).heap.size := Nat.le_trans zd_W2 hb.size
              have s9_W3 : Hid (∀ (q : Nat) u, [.int .i64 x][q]? = some u → (W2.alloc (.cells #[.int .i64 x] 3)).cell? ((⟨W2.heap.size, 0, none⟩ : Addr).add q) = some u) := Lib.hid (cell_one_new W2 _ _)
              have l9_W3 : W2.heap.size < (W2.alloc (.cells #[.int .i64 x] 3)).heap.size := by simp
              refine hK _ _ (HSw.out _ t_W3.out) (fun _ _ => trivial) ?_
              try simp only [Act.put, Nat.zero_add, List.getElem_toArray, List.getElem_cons_zero, List.getElem_cons_succ, List.setIfInBounds_toArray, List.set_cons_zero, List.set_cons_succ]
              clear hK K hb
              generalize hg_W3 : W2.alloc (.cells #[.int .i64 x] 3) = W3 at t_W3 st_W3 zd_W3 s9_W3 l9_W3 ⊢
              replace hg_W3 := Lib.hid hg_W3
              refine D_one (i := 10) (by kernel_rfl) rfl ?_
              intro K hK
              refine step_append_lies _ (by rfl) _ _ _ (by rfl) w.heap.size 3 iI _ 1 8 Tryd.underlying23 hiI hI0 hI1 hI2 rfl (by omega) (.slice B1 k d1) k (ints (BS.take k)) (by rfl) (by have := st_W3.out.b; unfold OwnI at this; rwa [hbl.out] at this) ⟨W2.heap.size, 0, none⟩ 1 1 [.int .i64 x] (by rfl) (by rfl) s9_W3.out (by simp [Value.oneCell']) (by omega) (by unfold maxLen; omega) (by omega) (t_W3.out.size) W3.heap.size rfl ?_
              intro g4 cap4 W4 hown4 hgrow4 hat4 hlt4
              have t_W4 := Lib.hid (t_W3.out.grown hgrow4 (t_W3.out.size) (fun q hq => by have := st_W3.out.b; unfold OwnI at this; rw [hbl.out] at this; exact (this.lt q hq).1))
              have st_W4 := Lib.hid (st_W3.out.num (by rw [hbl.out]) hown4 hgrow4 hat4 rfl)
              rw [hrt1.out, hdt1.out] at st_W4
              clear hown4 hgrow4 hat4 hlt4
              refine hK _ _ (HSw.out _ t_W4.out) (fun _ _ => trivial) ?_
              try simp only [Act.put, Nat.zero_add, List.getElem_toArray, List.getElem_cons_zero, List.getElem_cons_succ, List.setIfInBounds_toArray, List.set_cons_zero, List.set_cons_succ]
              clear hK K
              refine D_one (i := 11) (by kernel_rfl) rfl ?_
              intro K hK
              rw [if_pos (by rfl)]
              go_simp
              refine hK _ _ (HSw.out _ t_W4.out) (fun _ _ => trivial) ?_
              try simp only [Act.put, Nat.zero_add, List.getElem_toArray, List.getElem_cons_zero, List.getElem_cons_succ, List.setIfInBounds_toArray, List.set_cons_zero, List.set_cons_succ]
              clear hK K
              refine D_one (i := 12) (by kernel_rfl) rfl ?_
              intro K hK
              rw [if_pos (by rfl)]
              go_simp
              refine hK _ _ (HSw.out _ t_W4.out) (fun _ _ => trivial) ?_
              try simp only [Act.put, Nat.zero_add, List.getElem_toArray, List.getElem_cons_zero, List.getElem_cons_succ, List.setIfInBounds_toArray, List.set_cons_zero, List.set_cons_succ]
              clear hK K
              refine D_done (by kernel_rfl) ?_ _
              go_wp2
              go_roundw
              case rel => exact ⟨k + 1, by have := hn.out; omega, by have := hn.out; go_num, t_W4, Lib.hid ⟨_, st_W4.out⟩⟩
              case measure => simp [intOf] <;> omega
            · intro K hK
              rw [if_pos (by rfl)]
              go_simp
              have hb : Below W1.heap.size W1 (W1.alloc (.cells #[.int .i64 x] 3)) := (Below.refl _ _).alloc (Nat.le_refl _) _
              have t_W5 := Lib.hid (t_W1.out.alloc (t_W1.out.size) (.cells #[.int .i64 x] 3))
              have st_W5 := Lib.hid (st_W1.out.kept hb)
              have zd_W5 : wr.heap.size ≤ (W1.alloc (.cells #[.int .i64 x] 3)).heap.size := Nat.le_trans zd_W1 hb.size
              have r_W5 := Lib.hid (r_W1.out.below hb)
              have s2_W5 : Hid (∀ (q : Nat) u, [.slice (some ⟨wr.heap.size, 0, none⟩) j j][q]? = some u → (W1.alloc (.cells #[.int .i64 x] 3)).cell? ((⟨Wd.heap.size, 0, none⟩ : Addr).add q) = some u) := Lib.hid (fun q u hj => (hb.cell (World.block_lt_of_cell? _ _ (s2_W1.out q u hj))).trans (s2_W1.out q u hj))
              have s9_W5 : Hid (∀ (q : Nat) u, [.int .i64 x][q]? = some u → (W1.alloc (.cells #[.int .i64 x] 3)).cell? ((⟨W1.heap.size, 0, none⟩ : Addr).add q) = some u) := Lib.hid (cell_one_new W1 _ _)
              have l9_W5 : W1.heap.size < (W1.alloc (.cells #[.int .i64 x] 3)).heap.size := by simp
              refine hK _ _ (HSw.out _ t_W5.out) (fun _ _ => trivial) ?_
              try simp only [Act.put, Nat.zero_add, List.getElem_toArray, List.getElem_cons_zero, List.getElem_cons_succ, List.setIfInBounds_toArray, List.set_cons_zero, List.set_cons_succ]
              clear hK K hb
              generalize hg_W5 : W1.alloc (.cells #[.int .i64 x] 3) = W5 at t_W5 st_W5 zd_W5 r_W5 s2_W5 s9_W5 l9_W5 ⊢
              replace hg_W5 := Lib.hid hg_W5
              refine D_one (i := 3) (by kernel_rfl) rfl ?_
              intro K hK
              refine step_append_lies _ (by rfl) _ _ _ (by rfl) w.heap.size 23 iR _ 1 24 Tryd.underlying22 hiR hR0 hR1 hR2 rfl (by omega) (.slice A1 k c1) k vs (by rfl) (by have := st_W5.out.m.outer; rwa [hkl.out] at this) ⟨Wd.heap.size, 0, none⟩ 1 1 [.slice (some ⟨wr.heap.size, 0, none⟩) j j] (by rfl) (by rfl) s2_W5.out (by simp [Value.oneCell']) (by omega) (by unfold maxLen; omega) (by omega) (t_W5.out.size) W5.heap.size rfl ?_
              intro g3 cap3 W6 hown3 hgrow3 hat3 hlt3
              have t_W6 := Lib.hid (t_W5.out.grown hgrow3 (t_W5.out.size) (fun q hq => by have := st_W5.out.m.outer; rw [hkl.out] at this; exact (this.lt q hq).1))
              have st_W6 := Lib.hid (st_W5.out.row r_W5.out hBs (fun q hq => by have e : wr.heap.size = q := (by simpa [Value.ownBlock] using hq); exact ⟨fun u hu hc => by have := hvsl.out u hu q hc; omega, fun hc => by have := hbvl.out q hc; omega⟩) (by rw [hkl.out]) hown3 hgrow3)
              have zd_W6 : wr.heap.size ≤ W6.heap.size := Nat.le_trans zd_W5 hgrow3.size
              have s9_W6 : Hid (∀ (q : Nat) u, [.int .i64 x][q]? = some u → W6.cell? ((⟨W1.heap.size, 0, none⟩ : Addr).add q) = some u) := Lib.hid (fun q u hj => (hgrow3.cell_far _ (World.block_lt_of_cell? _ _ (s9_W5.out q u hj)) (by rw [add_off]; intro e; have := hrvl.out W1.heap.size e.symm; omega)).trans (s9_W5.out q u hj))
              clear hown3 hgrow3 hat3 hlt3
              refine hK _ _ (HSw.out _ t_W6.out) (fun _ _ => trivial) ?_
              try simp only [Act.put, Nat.zero_add, List.getElem_toArray, List.getElem_cons_zero, List.getElem_cons_succ, List.setIfInBounds_toArray, List.set_cons_zero, List.set_cons_succ]
              clear hK K
              refine D_one (i := 10) (by kernel_rfl) rfl ?_
              intro K hK
              refine step_append_lies _ (by rfl) _ _ _ (by rfl) w.heap.size 3 iI _ 1 8 Tryd.underlying23 hiI hI0 hI1 hI2 rfl (by omega) (.slice B1 k d1) k (ints (BS.take k)) (by rfl) (by have := st_W6.out.b; unfold OwnI at this; rwa [hbl.out] at this) ⟨W1.heap.size, 0, none⟩ 1 1 [.int .i64 x] (by rfl) (by rfl) s9_W6.out (by simp [Value.oneCell']) (by omega) (by unfold maxLen; omega) (by omega) (t_W6.out.size) W6.heap.size rfl ?_
              intro g4 cap4 W7 hown4 hgrow4 hat4 hlt4
              have t_W7 := Lib.hid (t_W6.out.grown hgrow4 (t_W6.out.size) (fun q hq => by have := st_W6.out.b; unfold OwnI at this; rw [hbl.out] at this; exact (this.lt q hq).1))
              have st_W7 := Lib.hid (st_W6.out.num (by rw [hbl.out]) hown4 hgrow4 hat4 rfl)
              rw [hrt1.out, hdt1.out] at st_W7
              clear hown4 hgrow4 hat4 hlt4
              refine hK _ _ (HSw.out _ t_W7.out) (fun _ _ => trivial) ?_
              try simp only [Act.put, Nat.zero_add, List.getElem_toArray, List.getElem_cons_zero, List.getElem_cons_succ, List.setIfInBounds_toArray, List.set_cons_zero, List.set_cons_succ]
              clear hK K
              refine D_one (i := 11) (by kernel_rfl) rfl ?_
              intro K hK
              rw [if_pos (by rfl)]
              go_simp
              refine hK _ _ (HSw.out _ t_W7.out) (fun _ _ => trivial) ?_
              try simp only [Act.put, Nat.zero_add, List.getElem_toArray, List.getElem_cons_zero, List.getElem_cons_succ, List.setIfInBounds_toArray, List.set_cons_zero, List.set_cons_succ]
              clear hK K
              refine D_one (i := 12) (by kernel_rfl) rfl ?_
              intro K hK
              rw [if_pos (by rfl)]
              go_simp
              refine hK _ _ (HSw.out _ t_W7.out) (fun _ _ => trivial) ?_
              try simp only [Act.put, Nat.zero_add, List.getElem_toArray, List.getElem_cons_zero, List.getElem_cons_succ, List.setIfInBounds_toArray, List.set_cons_zero, List.set_cons_succ]
              clear hK K
              refine D_done (by kernel_rfl) ?_ _
              go_wp2
              go_roundw
              case rel => exact ⟨k + 1, by have := hn.out; omega, by have := hn.out; go_num, t_W7, Lib.hid ⟨_, st_W7.out⟩⟩
              case measure => simp [intOf] <;> omega
          · intro K hK
            rw [if_pos (by rfl)]
            go_simp
            have hb : Below Wd.heap.size Wd (Wd.alloc (.cells #[.int .i64 x] 3)) := (Below.refl _ _).alloc (Nat.le_refl _) _
            have t_W8 := Lib.hid (t_Wd.out.alloc (t_Wd.out.size) (.cells #[.int .i64 x] 3))
            have st_W8 := Lib.hid (st_Wd.out.kept hb)
            have zd_W8 : wr.heap.size ≤ (Wd.alloc (.cells #[.int .i64 x] 3)).heap.size := Nat.le_trans zd_Wd hb.size
            have r_W8 := Lib.hid (r_Wd.out.below hb)
            have s9_W8 : Hid (∀ (q : Nat) u, [.int .i64 x][q]? = some u → (Wd.alloc (.cells #[.int .i64 x] 3)).cell? ((⟨Wd.heap.size, 0, none⟩ : Addr).add q) = some u) := Lib.hid (cell_one_new Wd _ _)
            have l9_W8 : Wd.heap.size < (Wd.alloc (.cells #[.int .i64 x] 3)).heap.size := by simp
            refine hK _ _ (HSw.out _ t_W8.out) (fun _ _ => trivial) ?_
            try simp only [Act.put, Nat.zero_add, List.getElem_toArray, List.getElem_cons_zero, List.getElem_cons_succ, List.setIfInBounds_toArray, List.set_cons_zero, List.set_cons_succ]
            clear hK K hb
            generalize hg_W8 : Wd.alloc (.cells #[.int .i64 x] 3) = W8 at t_W8 st_W8 zd_W8 r_W8 s9_W8 l9_W8 ⊢
            replace hg_W8 := Lib.hid hg_W8
            refine D_one (i := 2) (by kernel_rfl) rfl ?_
            intro K hK
            rw [if_pos (by rfl)]
            go_simp
            have hb : Below W8.heap.size W8 (W8.alloc (.cells #[.slice (some ⟨wr.heap.size, 0, none⟩) j j] 23)) := (Below.refl _ _).alloc (Nat.le_refl _) _
            have t_W9 := Lib.hid (t_W8.out.alloc (t_W8.out.size) (.cells #[.slice (some ⟨wr.heap.size, 0, none⟩) j j] 23))
            have st_W9 := Lib.hid (st_W8.out.kept hb)
            have zd_W9 : wr.heap.size ≤ (W8.alloc (.cells #[.slice (some ⟨wr.heap.size, 0, none⟩) j j] 23)).heap.size := Nat.le_trans zd_W8 hb.size
            have r_W9 := Lib.hid (r_W8.out.below hb)
            have s9_W9 : Hid (∀ (q : Nat) u, [.int .i64 x][q]? = some u → (W8.alloc (.cells #[.slice (some ⟨wr.heap.size, 0, none⟩) j j] 23)).cell? ((⟨Wd.heap.size, 0, none⟩ : Addr).add q) = some u) := Lib.hid (fun q u hj => (hb.cell (World.block_lt_of_cell? _ _ (s9_W8.out q u hj))).trans (s9_W8.out q u hj))
            have s2_W9 : Hid (∀ (q : Nat) u, [.slice (some ⟨wr.heap.size, 0, none⟩) j j][q]? = some u → (W8.alloc (.cells #[.slice (some ⟨wr.heap.size, 0, none⟩) j j] 23)).cell? ((⟨W8.heap.size, 0, none⟩ : Addr).add q) = some u) := Lib.hid (cell_one_new W8 _ _)
            have l2_W9 : W8.heap.size < (W8.alloc (.cells #[.slice (some ⟨wr.heap.size, 0, none⟩) j j] 23)).heap.size := by simp
            refine hK _ _ (HSw.out _ t_W9.out) (fun _ _ => trivial) ?_
            try simp only [Act.put, Nat.zero_add, List.getElem_toArray, List.getElem_cons_zero, List.getElem_cons_succ, List.setIfInBounds_toArray, List.set_cons_zero, List.set_cons_succ]
            clear hK K hb
            generalize hg_W9 : W8.alloc (.cells #[.slice (some ⟨wr.heap.size, 0, none⟩) j j] 23) = W9 at t_W9 st_W9 zd_W9 r_W9 s9_W9 s2_W9 l2_W9 ⊢
            replace hg_W9 := Lib.hid hg_W9
            refine D_one (i := 3) (by kernel_rfl) rfl ?_
            intro K hK
            refine step_append_lies _ (by rfl) _ _ _ (by rfl) w.heap.size 23 iR _ 1 24 Tryd.underlying22 hiR hR0 hR1 hR2 rfl (by omega) (.slice A1 k c1) k vs (by rfl) (by have := st_W9.out.m.outer; rwa [hkl.out] at this) ⟨W8.heap.size, 0, none⟩ 1 1 [.slice (some ⟨wr.heap.size, 0, none⟩) j j] (by rfl) (by rfl) s2_W9.out (by simp [Value.oneCell']) (by omega) (by unfold maxLen; omega) (by omega) (t_W9.out.size) W9.heap.size rfl ?_
            intro g3 cap3 W10 hown3 hgrow3 hat3 hlt3
            have t_W10 := Lib.hid (t_W9.out.grown hgrow3 (t_W9.out.size) (fun q hq => by have := st_W9.out.m.outer; rw [hkl.out] at this; exact (this.lt q hq).1))
            have st_W10 := Lib.hid (st_W9.out.row r_W9.out hBs (fun q hq => by have e : wr.heap.size = q := (by simpa [Value.ownBlock] using hq); exact ⟨fun u hu hc => by have := hvsl.out u hu q hc; omega, fun hc => by have := hbvl.out q hc; omega⟩) (by rw [hkl.out]) hown3 hgrow3)
            have zd_W10 : wr.heap.size ≤ W10.heap.size := Nat.le_trans zd_W9 hgrow3.size
            have s9_W10 : Hid (∀ (q : Nat) u, [.int .i64 x][q]? = some u → W10.cell? ((⟨Wd.heap.size, 0, none⟩ : Addr).add q) = some u) := Lib.hid (fun q u hj => (hgrow3.cell_far _ (World.block_lt_of_cell? _ _ (s9_W9.out q u hj)) (by rw [add_off]; intro e; have := hrvl.out Wd.heap.size e.symm; omega)).trans (s9_W9.out q u hj))
            clear hown3 hgrow3 hat3 hlt3
            refine hK _ _ (HSw.out _ t_W10.out) (fun _ _ => trivial) ?_
            try simp only [Act.put, Nat.zero_add, List.getElem_toArray, List.getElem_cons_zero, List.getElem_cons_succ, List.setIfInBounds_toArray, List.set_cons_zero, List.set_cons_succ]
            clear hK K
            refine D_one (i := 10) (by kernel_rfl) rfl ?_
            intro K hK
            refine step_append_lies _ (by rfl) _ _ _ (by rfl) w.heap.size 3 iI _ 1 8 Tryd.underlying23 hiI hI0 hI1 hI2 rfl (by omega) (.slice B1 k d1) k (ints (BS.take k)) (by rfl) (by have := st_W10.out.b; unfold OwnI at this; rwa [hbl.out] at this) ⟨Wd.heap.size, 0, none⟩ 1 1 [.int .i64 x] (by rfl) (by rfl) s9_W10.out (by simp [Value.oneCell']) (by omega) (by unfold maxLen; omega) (by omega) (t_W10.out.size) W10.heap.size rfl ?_
            intro g4 cap4 W11 hown4 hgrow4 hat4 hlt4
            have t_W11 := Lib.hid (t_W10.out.grown hgrow4 (t_W10.out.size) (fun q hq => by have := st_W10.out.b; unfold OwnI at this; rw [hbl.out] at this; exact (this.lt q hq).1))
            have st_W11 := Lib.hid (st_W10.out.num (by rw [hbl.out]) hown4 hgrow4 hat4 rfl)
            rw [hrt1.out, hdt1.out] at st_W11
            clear hown4 hgrow4 hat4 hlt4
            refine hK _ _ (HSw.out _ t_W11.out) (fun _ _ => trivial) ?_
            try simp only [Act.put, Nat.zero_add, List.getElem_toArray, List.getElem_cons_zero, List.getElem_cons_succ, List.setIfInBounds_toArray, List.set_cons_zero, List.set_cons_succ]
            clear hK K
            refine D_one (i := 11) (by kernel_rfl) rfl ?_
            intro K hK
            rw [if_pos (by rfl)]
            go_simp
            refine hK _ _ (HSw.out _ t_W11.out) (fun _ _ => trivial) ?_
            try simp only [Act.put, Nat.zero_add, List.getElem_toArray, List.getElem_cons_zero, List.getElem_cons_succ, List.setIfInBounds_toArray, List.set_cons_zero, List.set_cons_succ]
            clear hK K
            refine D_one (i := 12) (by kernel_rfl) rfl ?_
            intro K hK
            rw [if_pos (by rfl)]
            go_simp
            refine hK _ _ (HSw.out _ t_W11.out) (fun _ _ => trivial) ?_
            try simp only [Act.put, Nat.zero_add, List.getElem_toArray, List.getElem_cons_zero, List.getElem_cons_succ, List.setIfInBounds_toArray, List.set_cons_zero, List.set_cons_succ]
            clear hK K
            refine D_done (by kernel_rfl) ?_ _
            go_wp2
            go_roundw
            case rel => exact ⟨k + 1, by have := hn.out; omega, by have := hn.out; go_num, t_W11, Lib.hid ⟨_, st_W11.out⟩⟩
            case measure => simp [intOf] <;> omega
    · obtain rfl : N - o = k := by omega
      obtain ⟨vs, hSt⟩ := hM.out
      rw [List.take_of_length_le (by rw [hlr.out]; exact Nat.le_refl _), List.take_of_length_le (by rw [hdl.out]; exact Nat.le_refl _)] at hSt
      have hs := Lib.hid (hsol.out _ _ wr (hSt.m.m.rd (by rw [hlr.out]; omega) (fun r hr => by have := hrl.out r hr; omega)) (hSt.b.rd (by rw [hdl.out]; omega)))
      rw [← hF.out] at hs
      have hBs := hB.out.size
      have n1 : ¬ ((o + (N - o) : Nat) : Int) < (N : Int) := by omega
      generalize hn : o + (N - o) = n at *
      clear hn hSt hM
      go_wp2_with fail
      refine hs.out.mono ?_; rintro e W3 ⟨⟨p, rfl, hO⟩, hB4⟩
      replace hO := Lib.hid hO
      replace hB4 := Lib.hid hB4
      go_wp2
      go_ret2
      exact ⟨⟨_, rfl, hO.out.base hBs⟩, hB.out.trans (hB4.out.mono hBs)⟩
end Go.Proofs.YtfljkcmijnhgkaaDoor

namespace Go.Proofs.YtfljkcmijnhgkaaDoor
open Go.RowKit Go.Shelf
set_option linter.unusedSimpArgs false

set_option maxRecDepth 100000 in
set_option maxHeartbeats 3200000 in
theorem refFit_any (l : List Int) (v : Value) (w : World) (hl : l.length ≤ 800) (hr : ∀ x ∈ l, 0 ≤ x ∧ x < 65521) (h : RdI w v l) :
    Calls Tryd.prog 118 #[v] w (FitRes (fitM l 12) w) := by
  have hrd := Lib.hid h
  obtain ⟨A, c, rfl, l1, l2, -⟩ := h.open_
  have hbx : Below w.heap.size w (w.alloc (.cells #[.slice none 0 0, .slice none 0 0] 49)) := (Below.refl _ _).alloc (Nat.le_refl _) _
  have hgb : (w.alloc (.cells #[.slice none 0 0, .slice none 0 0] 49)).heap[w.heap.size]? = some (.cells #[.slice none 0 0, .slice none 0 0] 49 (0, 0)) := heap_alloc_new _ _
  have hsz : (w.alloc (.cells #[.slice none 0 0, .slice none 0 0] 49)).heap.size = w.heap.size + 1 := by simp
  have hmn : ∃ M, min 12 l.length = M ∧ M ≤ l.length ∧ M ≤ 12 := ⟨_, rfl, Nat.min_le_right _ _, Nat.min_le_left _ _⟩
  obtain ⟨M, hM, hMl, hM12⟩ := hmn
  have hF0 := Lib.hid (fun (h : ∀ o, o < M + 1 → fitO l o = none) => fitM_none hM h)
  have hF1 := Lib.hid (fun (k : Nat) by_ (hk : k < M + 1) (h : ∀ o, o < k → fitO l o = none) (hs : fitO l k = some by_) => fitM_some hM hk h hs)
  have hft := Lib.hid (fun k W (hk : k ≤ l.length) (hW : Below w.heap.size w W) => fits_any l k _ W (hrd.out.below hW (Nat.le_refl _)) (by omega) hk hr)
  clear h hr
  go_enter Tryd.func118, Tryd.ntmps118
  go_wp2
  generalize w.alloc (.cells #[.slice none 0 0, .slice none 0 0] 49) = X at hbx hgb hsz ⊢
  replace hbx := Lib.hid hbx
  replace hgb := Lib.hid hgb
  go_loopw [4, 5, 6] (fun i _ _ wr => ∃ k : Nat, k ≤ M + 1 ∧ i = .int .i64 k ∧ Hid (Below X.heap.size X wr) ∧ Hid (∀ o, o < k → fitO l o = none)) (fun i _ _ _ => M + 1 - (intOf i).toNat)
  case atStart => exact ⟨0, Nat.zero_le _, rfl, Lib.hid (Below.refl _ _), Lib.hid (fun o ho => by omega)⟩
  case round =>
    obtain ⟨k, hk, rfl, hB, hE⟩ := hrel
    have hwr := hB.out.size
    by_cases hlt : k < M + 1
    · have k1 : (k : Int) ≤ 12 := by omega
      have k2 : (k : Int) ≤ (l.length : Int) := by omega
      have hs := Lib.hid (hft.out k wr (by omega) (Below.then_ hbx.out hB.out))
      generalize hfb : (fitO l k).isSome = fb at hs
      replace hfb := Lib.hid hfb
      go_wp2_with fail
      refine hs.out.mono ?_; rintro e W1 ⟨⟨v2, rfl, hO2⟩, hB1⟩
      obtain ⟨A2, c2, rfl⟩ : ∃ A c, v2 = .slice A ((fitO l k).getD []).length c := by have h := hO2; unfold OwnI at h; exact own_form h
      have hBF := Lib.hid (Below.then_ hB.out hB1)
      cases fb with
      | false =>
        have hE2 : Hid (∀ o, o < k + 1 → fitO l o = none) := Lib.hid (fun o ho => by
          by_cases e : o = k
          · rw [e]; exact Option.not_isSome_iff_eq_none.1 (by rw [hfb.out]; decide)
          · exact hE.out o (by omega))
        go_wp2
        go_roundw
        case rel => exact ⟨k + 1, by omega, by go_num, hBF, hE2⟩
        case measure => simp [intOf]; omega
      | true =>
        obtain ⟨by_, hby⟩ := Option.isSome_iff_exists.1 hfb.out
        have hr := Lib.hid (hF1.out k by_ hlt hE.out hby)
        have hs3 : ∀ W, (Instr.slice 23 (.slice A l.length c) none (some (.int .i64 k)) none).run Tryd.prog W = .ok (.slice A k c) W := fun W => run_upto A l.length c k W (by omega) l1
        have hal : Below W1.heap.size W1 (W1.alloc (.cells #[] 3)) := (Below.refl _ _).alloc (Nat.le_refl _) _
        have hB2 := Below.then_ hBF.out hal
        have htk := (hrd.out.below (Below.then_ hbx.out hB2) (Nat.le_refl _)).take (k := k) (by omega)
        have hlk : (l.take k).length = k := by rw [List.length_take]; omega
        have hown0 : (W1.alloc (.cells #[] 3)).ownsRow W1.heap.size 3 1 (.slice (some ⟨W1.heap.size, 0, none⟩) 0 0) 0 [] := World.ownsRow_made W1 #[] 0 (Nat.le_refl _) (by unfold maxLen; omega) rfl
        have hn : ((fitO l k).getD []).length = by_.length := by rw [hby]; rfl
        rw [hn]
        have hlk2 := Lib.hid hlk
        replace hown0 := Lib.hid hown0
        replace htk := Lib.hid htk
        have hw1 := hBF.out.size
        have kp := Lib.hid (fun W3 (hg : (W1.alloc (.cells #[] 3)).grownBy W3 (Value.slice (some ⟨W1.heap.size, 0, none⟩) 0 0).ownBlock) => ret_cell (((Below.then_ hBF.out (hal.grown hg hal.size (fun q hq => (hown0.out.lt q hq).1))).block w.heap.size (by omega)).trans hgb.out))
        go_wp2_with (at_builtin; (refine wpList_append_rd rfl _ _ rfl W1.heap.size (.slice (some ⟨W1.heap.size, 0, none⟩) 0 0) (.slice A k c) 0 [] (l.take k) rfl rfl hown0.out htk.out (by rw [hlk2.out]; omega) hal.size ?_); intro v3 W3 hown hgrow hat; obtain ⟨A3, c3, rfl⟩ := own_shape hown; obtain ⟨d0, d1, d2, d3⟩ := kp.out W3 hgrow)
        rw [List.nil_append] at hown
        have hB3 := Lib.hid (hal.grown hgrow hal.size (fun q hq => (hown0.out.lt q hq).1))
        rw [Nat.zero_add, hlk2.out] at hown
        have hO3 : OwnI W3 W1.heap.size (.slice A3 k c3) (l.take k) := by unfold OwnI; rw [hlk2.out]; exact hown
        have hO2f : OwnI W3 W1.heap.size (.slice A3 k c3) (l.take k) ∧ OwnI W3 X.heap.size (.slice A2 by_.length c2) by_ := ⟨hO3, by rw [hby] at hO2; exact (hO2.below hB3.out).base hwr⟩
        replace hO2f := Lib.hid hO2f
        have hBG := Lib.hid (Below.then_ hBF.out hB3.out)
        have hgb2 := (hBG.out.block w.heap.size (by omega)).trans hgb.out
        replace hgb2 := Lib.hid hgb2
        have hB6 := Lib.hid (Below.then_ hbx.out hBG.out)
        clear hn hown hgrow hat hlk2 hown0 hO2 hO3 htk hal hB2 hB3 hB1
        go_wp2
        refine bodyPost_ret (res_ct rfl _ _ w.heap.size 49 #[.slice A2 by_.length c2, .slice A3 k c3] (0, 0) _ rfl (heap_set2 _ _ hgb2.out) rfl rfl rfl) rfl ?_
        rw [hr.out]
        exact ⟨_, rfl, ⟨_, _, rfl, own_two hO2f.out.2 (by omega) (by omega) _ _, own_two hO2f.out.1 (by omega) (by omega) _ _⟩, (hB6.out.setCell (p := ⟨w.heap.size, 0, none⟩) (Nat.le_refl _) _).setCell (p := ⟨w.heap.size, 1, none⟩) (Nat.le_refl _) _⟩
    · obtain rfl : k = M + 1 := by omega
      have hr := Lib.hid (hF0.out hE.out)
      have hgb2 := (hB.out.block w.heap.size (by omega)).trans hgb.out
      obtain ⟨d0, d1, d2, d3⟩ := ret_cell hgb2
      replace hgb2 := Lib.hid hgb2
      have hB2 := Lib.hid (Below.then_ hbx.out hB.out)
      by_cases q : M = 12
      · have k1 : ¬ ((M : Int) + 1) ≤ 12 := by omega
        go_wp2
        refine bodyPost_ret (res_ct rfl _ _ w.heap.size 49 #[.slice none 0 0, .slice none 0 0] (0, 0) _ rfl (heap_set2 _ _ hgb2.out) rfl rfl rfl) rfl ?_
        rw [hr.out]
        exact ⟨_, rfl, ⟨_, _, rfl, OwnI_nil _ _, OwnI_nil _ _⟩, (hB2.out.setCell (p := ⟨w.heap.size, 0, none⟩) (Nat.le_refl _) _).setCell (p := ⟨w.heap.size, 1, none⟩) (Nat.le_refl _) _⟩
      · have k1 : ((M : Int) + 1) ≤ 12 := by omega
        have k2 : ¬ ((M : Int) + 1) ≤ (l.length : Int) := by omega
        go_wp2
        refine bodyPost_ret (res_ct rfl _ _ w.heap.size 49 #[.slice none 0 0, .slice none 0 0] (0, 0) _ rfl (heap_set2 _ _ hgb2.out) rfl rfl rfl) rfl ?_
        rw [hr.out]
        exact ⟨_, rfl, ⟨_, _, rfl, OwnI_nil _ _, OwnI_nil _ _⟩, (hB2.out.setCell (p := ⟨w.heap.size, 0, none⟩) (Nat.le_refl _) _).setCell (p := ⟨w.heap.size, 1, none⟩) (Nat.le_refl _) _⟩
end Go.Proofs.YtfljkcmijnhgkaaDoor

namespace Go.Proofs.YtfljkcmijnhgkaaDoor
open Go.RowKit Go.Shelf
set_option linter.unusedSimpArgs false

set_option maxRecDepth 100000 in
set_option maxHeartbeats 1600000 in
theorem refLeast_any (l : List Int) (v : Value) (w : World) (h : RdI w v l) :
    Calls Tryd.prog 45 #[v] w (RuleOut (leastR l) w) := by
  have hrd := Lib.hid h
  obtain ⟨A, c, rfl, l1, l2, -⟩ := h.open_
  have hbx : Below w.heap.size w (w.alloc (.cells #[.slice none 0 0, .slice none 0 0] 49)) := (Below.refl _ _).alloc (Nat.le_refl _) _
  have hg : (w.alloc (.cells #[.slice none 0 0, .slice none 0 0] 49)).heap[w.heap.size]? = some (.cells #[.slice none 0 0, .slice none 0 0] 49 (0, 0)) := heap_alloc_new _ _
  have hsz : (w.alloc (.cells #[.slice none 0 0, .slice none 0 0] 49)).heap.size = w.heap.size + 1 := by simp
  have hE : ∀ W (g : Nat), Below w.heap.size w W → g = w.heap.size → Below w.heap.size w ((W.setCell ⟨g, 0, none⟩ (.slice none 0 0)).setCell ⟨g, 1, none⟩ (.slice none 0 0)) := fun W g hW hg => by
    subst hg; exact (hW.setCell (p := ⟨w.heap.size, 0, none⟩) (Nat.le_refl _) _).setCell (p := ⟨w.heap.size, 1, none⟩) (Nat.le_refl _) _
  replace hE := Lib.hid hE
  clear h
  by_cases q1 : 64 < l.length
  · have hr := Lib.hid (leastR_many q1)
    have q2 : (64 : Int) < (l.length : Int) := by omega
    obtain ⟨d0, d1, d2, d3⟩ := ret_cell hg
    replace hg := Lib.hid hg
    go_enter Tryd.func45, Tryd.ntmps45
    go_wp2
    refine bodyPost_ret (res_ct rfl _ _ w.heap.size 49 #[.slice none 0 0, .slice none 0 0] (0, 0) _ rfl hg.out rfl rfl rfl) rfl ?_
    rw [hr.out]
    exact ⟨_, rfl, ⟨_, _, rfl, OwnI_nil _ _, OwnI_nil _ _⟩, hbx⟩
  · have q2 : ¬ (64 : Int) < (l.length : Int) := by omega
    have hi := Lib.hid (fun W (hW : Below w.heap.size w W) => res_below l _ W (hrd.out.below hW (Nat.le_refl _)))
    cases p1 : isRes l
    · have hr := Lib.hid (leastR_range q1 p1)
      rw [p1] at hi
      clear p1
      go_enter Tryd.func45, Tryd.ntmps45
      go_wp2_with fail
      generalize w.alloc (.cells #[.slice none 0 0, .slice none 0 0] 49) = X at *
      refine (hi.out X hbx).mono ?_; rintro e W1 ⟨rfl, hB1⟩
      have hg1 := (hB1.block w.heap.size (by rw [hsz]; exact Nat.lt_succ_self _)).trans hg
      obtain ⟨d0, d1, d2, d3⟩ := ret_cell hg1
      replace hg1 := Lib.hid hg1
      clear hg hi
      go_wp2
      refine bodyPost_ret (res_ct rfl _ _ w.heap.size 49 #[.slice none 0 0, .slice none 0 0] (0, 0) _ rfl (heap_set2 _ _ hg1.out) rfl rfl rfl) rfl ?_
      rw [hr.out]
      exact ⟨_, rfl, ⟨_, _, rfl, OwnI_nil _ _, OwnI_nil _ _⟩, hE.out _ _ (Below.then_ hbx hB1) rfl⟩
    · rw [p1] at hi
      have hfi := Lib.hid (fun W (hW : Below w.heap.size w W) => refFit_any l _ W (by omega) (isRes_iff.1 p1) (hrd.out.below hW (Nat.le_refl _)))
      have hF := Lib.hid (fun (h3 : fitM l 12 = none) => leastR_none q1 p1 h3)
      have hG := Lib.hid (fun r (h3 : fitM l 12 = some r) => leastR_some (r := r) q1 p1 h3)
      unfold FitRes at hfi
      generalize hfb : (fitM l 12).isSome = fb at hfi
      replace hfb := Lib.hid hfb
      clear p1
      go_enter Tryd.func45, Tryd.ntmps45
      go_wp2_with fail
      generalize w.alloc (.cells #[.slice none 0 0, .slice none 0 0] 49) = X at *
      refine (hi.out X hbx).mono ?_; rintro e W1 ⟨rfl, hB1⟩
      have hg1 := (hB1.block w.heap.size (by rw [hsz]; exact Nat.lt_succ_self _)).trans hg
      have hB2 := Below.then_ hbx hB1
      go_wp2_with fail
      refine (hfi.out W1 hB2).mono ?_; rintro e W2 ⟨v, rfl, ⟨a, b, rfl, oa, ob⟩, hB3⟩
      have hlt1 : w.heap.size < W1.heap.size := by have := hB1.size; omega
      obtain ⟨A1, c1, rfl⟩ : ∃ A c, a = .slice A ((fitM l 12).getD ⟨[], []⟩).by_.length c := by have h := oa; unfold OwnI at h; exact own_form h
      obtain ⟨A2, c2, rfl⟩ : ∃ A c, b = .slice A ((fitM l 12).getD ⟨[], []⟩).start.length c := by have h := ob; unfold OwnI at h; exact own_form h
      generalize ((fitM l 12).getD ⟨[], []⟩).by_.length = n1 at *
      generalize ((fitM l 12).getD ⟨[], []⟩).start.length = n2 at *
      have hbl : Below W2.heap.size W2 (W2.alloc (.cells #[.slice A1 n1 c1, .slice A2 n2 c2] 49)) := (Below.refl _ _).alloc (Nat.le_refl _) _
      have hg2 := (hbl.block w.heap.size (by have := hB3.size; omega)).trans ((hB3.block w.heap.size hlt1).trans hg1)
      obtain ⟨d0, d1, d2, d3⟩ := ret_cell hg2
      replace hg2 := Lib.hid hg2
      have hgn : (W2.alloc (.cells #[.slice A1 n1 c1, .slice A2 n2 c2] 49)).heap[W2.heap.size]? = some (.cells #[.slice A1 n1 c1, .slice A2 n2 c2] 49 (0, 0)) := heap_alloc_new _ _
      obtain ⟨d4, d5, -, -⟩ := ret_cell hgn
      have hB4 := Lib.hid (Below.then_ (Below.then_ hB2 hB3) hbl)
      replace oa := Lib.hid (oa.below hbl)
      replace ob := Lib.hid (ob.below hbl)
      clear hg hg1 hi hgn hbl
      cases fb with
      | false =>
        have hr := Lib.hid (hF.out (Option.not_isSome_iff_eq_none.1 (by rw [hfb.out]; decide)))
        go_wp2
        refine bodyPost_ret (res_ct rfl _ _ w.heap.size 49 #[.slice none 0 0, .slice none 0 0] (0, 0) _ rfl (heap_set2 _ _ hg2.out) rfl rfl rfl) rfl ?_
        rw [hr.out]
        exact ⟨_, rfl, ⟨_, _, rfl, OwnI_nil _ _, OwnI_nil _ _⟩, hE.out _ _ hB4.out rfl⟩
      | true =>
        obtain ⟨r, hf⟩ := Option.isSome_iff_exists.1 hfb.out
        have hr := Lib.hid (hG.out r hf)
        rw [hf] at oa ob
        replace hf := Lib.hid hf
        go_wp2
        refine bodyPost_ret (res_ct rfl _ _ w.heap.size 49 #[.slice A1 n1 c1, .slice A2 n2 c2] (0, 0) _ rfl (heap_set2 _ _ hg2.out) rfl rfl rfl) rfl ?_
        rw [hr.out]
        exact ⟨_, rfl, ⟨_, _, rfl, own_two oa.out (Nat.le_of_lt hlt1) hlt1 _ _, own_two ob.out (Nat.le_of_lt hlt1) hlt1 _ _⟩, (hB4.out.setCell (p := ⟨w.heap.size, 0, none⟩) (Nat.le_refl _) _).setCell (p := ⟨w.heap.size, 1, none⟩) (Nat.le_refl _) _⟩
def madeR (l : List Int) : Rule × Int := match fitM l 12 with
  | some r => (r, 0)
  | none => (⟨[], []⟩, 11)
set_option maxRecDepth 100000 in
set_option maxHeartbeats 1600000 in
theorem refMade_any (l : List Int) (v : Value) (w : World) (hl : l.length ≤ 800) (hr : ∀ x ∈ l, 0 ≤ x ∧ x < 65521) (h : RdI w v l) :
    Calls Tryd.prog 109 #[v] w (RuleOut (madeR l) w) := by
  have hrd := Lib.hid h
  obtain ⟨A, c, rfl, l1, l2, -⟩ := h.open_
  have hbx : Below w.heap.size w (w.alloc (.cells #[.slice none 0 0, .slice none 0 0] 49)) := (Below.refl _ _).alloc (Nat.le_refl _) _
  have hg1 : (w.alloc (.cells #[.slice none 0 0, .slice none 0 0] 49)).heap[w.heap.size]? = some (.cells #[.slice none 0 0, .slice none 0 0] 49 (0, 0)) := heap_alloc_new _ _
  have hlt1 : w.heap.size < (w.alloc (.cells #[.slice none 0 0, .slice none 0 0] 49)).heap.size := by simp
  have hE : ∀ W (g : Nat), Below w.heap.size w W → g = w.heap.size → Below w.heap.size w ((W.setCell ⟨g, 0, none⟩ (.slice none 0 0)).setCell ⟨g, 1, none⟩ (.slice none 0 0)) := fun W g hW hg => by
    subst hg; exact (hW.setCell (p := ⟨w.heap.size, 0, none⟩) (Nat.le_refl _) _).setCell (p := ⟨w.heap.size, 1, none⟩) (Nat.le_refl _) _
  replace hE := Lib.hid hE
  have hfi := Lib.hid (fun W (hW : Below w.heap.size w W) => refFit_any l _ W hl hr (hrd.out.below hW (Nat.le_refl _)))
  have hF := Lib.hid (fun (h3 : fitM l 12 = none) => show madeR l = (⟨[], []⟩, 11) by rw [madeR, h3])
  have hG := Lib.hid (fun r (h3 : fitM l 12 = some r) => show madeR l = (r, 0) by rw [madeR, h3])
  unfold FitRes at hfi
  generalize hfb : (fitM l 12).isSome = fb at hfi
  replace hfb := Lib.hid hfb
  clear h hr hl
  go_enter Tryd.func109, Tryd.ntmps109
  go_wp2_with fail
  generalize w.alloc (.cells #[.slice none 0 0, .slice none 0 0] 49) = W1 at *
  have hB2 := hbx
  refine (hfi.out W1 hB2).mono ?_; rintro e W2 ⟨v, rfl, ⟨a, b, rfl, oa, ob⟩, hB3⟩
  obtain ⟨A1, c1, rfl⟩ : ∃ A c, a = .slice A ((fitM l 12).getD ⟨[], []⟩).by_.length c := by have h := oa; unfold OwnI at h; exact own_form h
  obtain ⟨A2, c2, rfl⟩ : ∃ A c, b = .slice A ((fitM l 12).getD ⟨[], []⟩).start.length c := by have h := ob; unfold OwnI at h; exact own_form h
  generalize ((fitM l 12).getD ⟨[], []⟩).by_.length = n1 at *
  generalize ((fitM l 12).getD ⟨[], []⟩).start.length = n2 at *
  have hbl : Below W2.heap.size W2 (W2.alloc (.cells #[.slice A1 n1 c1, .slice A2 n2 c2] 49)) := (Below.refl _ _).alloc (Nat.le_refl _) _
  have hg2 := (hbl.block w.heap.size (by have := hB3.size; omega)).trans ((hB3.block w.heap.size hlt1).trans hg1)
  obtain ⟨d0, d1, d2, d3⟩ := ret_cell hg2
  replace hg2 := Lib.hid hg2
  have hgn : (W2.alloc (.cells #[.slice A1 n1 c1, .slice A2 n2 c2] 49)).heap[W2.heap.size]? = some (.cells #[.slice A1 n1 c1, .slice A2 n2 c2] 49 (0, 0)) := heap_alloc_new _ _
  obtain ⟨d4, d5, -, -⟩ := ret_cell hgn
  have hB4 := Lib.hid (Below.then_ (Below.then_ hB2 hB3) hbl)
  replace oa := Lib.hid (oa.below hbl)
  replace ob := Lib.hid (ob.below hbl)
  clear hg1 hgn hbl
  cases fb with
  | false =>
    have hr := Lib.hid (hF.out (Option.not_isSome_iff_eq_none.1 (by rw [hfb.out]; decide)))
    go_wp2
    refine bodyPost_ret (res_ct rfl _ _ w.heap.size 49 #[.slice none 0 0, .slice none 0 0] (0, 0) _ rfl (heap_set2 _ _ hg2.out) rfl rfl rfl) rfl ?_
    rw [hr.out]
    exact ⟨_, rfl, ⟨_, _, rfl, OwnI_nil _ _, OwnI_nil _ _⟩, hE.out _ _ hB4.out rfl⟩
  | true =>
    obtain ⟨r, hf⟩ := Option.isSome_iff_exists.1 hfb.out
    have hr := Lib.hid (hG.out r hf)
    rw [hf] at oa ob
    replace hf := Lib.hid hf
    go_wp2
    refine bodyPost_ret (res_ct rfl _ _ w.heap.size 49 #[.slice A1 n1 c1, .slice A2 n2 c2] (0, 0) _ rfl (heap_set2 _ _ hg2.out) rfl rfl rfl) rfl ?_
    rw [hr.out]
    exact ⟨_, rfl, ⟨_, _, rfl, own_two oa.out (Nat.le_of_lt hlt1) hlt1 _ _, own_two ob.out (Nat.le_of_lt hlt1) hlt1 _ _⟩, (hB4.out.setCell (p := ⟨w.heap.size, 0, none⟩) (Nat.le_refl _) _).setCell (p := ⟨w.heap.size, 1, none⟩) (Nat.le_refl _) _⟩
end Go.Proofs.YtfljkcmijnhgkaaDoor

namespace Go.Proofs.YtfljkcmijnhgkaaDoor
open Go.RowKit Go.Shelf
set_option linter.unusedSimpArgs false

/-- A rule of the call's own, where its rows' blocks are as they were. -/
theorem own_kept {W E : World} {lo b : Nat} {v : Value} {r : Rule} (h : OwnR W lo v r) (hb : b ≤ lo) (hk : ∀ g, lo ≤ g → g < W.heap.size → E.heap[g]? = W.heap[g]?) : OwnR E b v r := by
  obtain ⟨x, y, rfl, ox, oy⟩ := h
  exact ⟨x, y, rfl, own_of_block (ox.base hb) (fun g hg => hk g (World.ownsRow.lt ox g hg).1 (World.ownsRow.lt ox g hg).2), own_of_block (oy.base hb) (fun g hg => hk g (World.ownsRow.lt oy g hg).1 (World.ownsRow.lt oy g hg).2)⟩
/-- A rule's box is none of the rule's rows. -/
theorem own_apart {E : World} {b g : Nat} {v x y p q : Value} {r : Rule} (h : OwnR E b v r) (hg : E.heap[g]? = some (.cells #[p, q] 49 (0, 0))) : OwnR ((E.setCell ⟨g, 0, none⟩ x).setCell ⟨g, 1, none⟩ y) b v r := by
  have one : ∀ u xs, OwnI E b u xs → OwnI ((E.setCell ⟨g, 0, none⟩ x).setCell ⟨g, 1, none⟩ y) b u xs := fun u xs hu => own_of_block hu (fun k hk => by
    have hne : k ≠ g := fun e => own_type hu hg (by decide) (by rw [← e]; exact hk)
    rw [Below.heap_setCell _ _ _ _ hne, Below.heap_setCell _ _ _ _ hne])
  obtain ⟨a, c, rfl, oa, oc⟩ := h
  exact ⟨a, c, rfl, one _ _ oa, one _ _ oc⟩
set_option maxRecDepth 100000 in
set_option maxHeartbeats 3200000 in
theorem Short_any (r : Rule) (v : Value) (w : World) (h : RdR w v r) :
    Calls Tryd.prog 48 #[v] w (RuleOut (shortR r) w) := by
  have hR := Lib.hid h
  obtain ⟨a, b, rfl, ra, rb⟩ := h
  obtain ⟨A1, d1, rfl, m1, m2, -⟩ := ra.open_
  obtain ⟨A2, d2, rfl, -⟩ := rb.open_
  have hbx : Below w.heap.size w ((w.alloc (.cells #[.slice A1 r.by_.length d1, .slice A2 r.start.length d2] 49)).alloc (.cells #[.slice none 0 0, .slice none 0 0] 49)) := ((Below.refl _ _).alloc (Nat.le_refl _) _).alloc (by simp) _
  have hga : ((w.alloc (.cells #[.slice A1 r.by_.length d1, .slice A2 r.start.length d2] 49)).alloc (.cells #[.slice none 0 0, .slice none 0 0] 49)).heap[w.heap.size]? = some (.cells #[.slice A1 r.by_.length d1, .slice A2 r.start.length d2] 49 (0, 0)) := by
    rw [((Below.refl _ (w.alloc (.cells #[.slice A1 r.by_.length d1, .slice A2 r.start.length d2] 49))).alloc (Nat.le_refl _) _).block w.heap.size (by simp)]; exact heap_alloc_new _ _
  have hgb : ((w.alloc (.cells #[.slice A1 r.by_.length d1, .slice A2 r.start.length d2] 49)).alloc (.cells #[.slice none 0 0, .slice none 0 0] 49)).heap[w.heap.size + 1]? = some (.cells #[.slice none 0 0, .slice none 0 0] 49 (0, 0)) := by
    have h := heap_alloc_new (w.alloc (.cells #[.slice A1 r.by_.length d1, .slice A2 r.start.length d2] 49)) (.cells #[.slice none 0 0, .slice none 0 0] 49); rwa [World.size_alloc] at h
  have hsz : ((w.alloc (.cells #[.slice A1 r.by_.length d1, .slice A2 r.start.length d2] 49)).alloc (.cells #[.slice none 0 0, .slice none 0 0] 49)).heap.size = w.heap.size + 2 := by simp
  have hri := Lib.hid (Right_any r _ _ (hR.out.below hbx (Nat.le_refl _)))
  clear ra rb
  by_cases h0 : rightR r = 0
  · have hr : Hid (shortR r = ((fitM (firstL r (2 * r.by_.length)) r.by_.length).getD ⟨[], []⟩, 0)) := Lib.hid (by rw [shortR, if_neg (by simpa using h0)])
    obtain ⟨o1, o2, o3, o4⟩ := rightR_ok h0
    have hln := Lib.hid (fun W (hW : Below w.heap.size w W) => lined_line r A1 A2 r.by_.length r.start.length d1 d2 W (hR.out.below hW (Nat.le_refl _)))
    have hfi := Lib.hid (fun v a b g W hL => first_any r (2 * r.by_.length) v a b g W h0 hL (by omega))
    have hft := Lib.hid (fun v W hv => fitting_any (firstL r (2 * r.by_.length)) r.by_.length v W (by rw [firstL_len]; omega) (by omega) (firstL_bd o4 _) hv)
    have hfl := Lib.hid (firstL_len r (2 * r.by_.length))
    rw [h0] at hri
    clear h0 o2 o3 o4 hR m2
    generalize firstL r (2 * r.by_.length) = FL at *
    generalize fitM FL r.by_.length = FM at *
    generalize hn1 : r.by_.length = n at *
    generalize r.start.length = m at *
    generalize shortR r = SR at *
    have e2 : 2 * (n : Int) = ((2 * n : Nat) : Int) := by omega
    have w2 : IntKind.i64.wrap ((2 * n : Nat) : Int) = ((2 * n : Nat) : Int) := IntWalk.i64_in _ ⟨by omega, by omega⟩
    replace hn1 := Lib.hid hn1
    generalize 2 * n = n2 at *
    go_enter Tryd.func48, Tryd.ntmps48
    go_wp2_with fail
    generalize (w.alloc (.cells #[.slice A1 n d1, .slice A2 m d2] 49)).alloc (.cells #[.slice none 0 0, .slice none 0 0] 49) = X at *
    refine hri.out.mono ?_; rintro e W1 ⟨rfl, hB1⟩
    have HSf : Hid (∀ W, Below X.heap.size X W → W.cell? ⟨w.heap.size, 0, none⟩ = some (.slice A1 n d1) ∧ W.cell? ⟨w.heap.size, 1, none⟩ = some (.slice A2 m d2)) := Lib.hid (fun W hW => by
      have hg := (hW.block w.heap.size (by omega)).trans hga
      exact ⟨by unfold World.cell?; rw [hg]; rfl, by unfold World.cell?; rw [hg]; rfl⟩)
    have HG : Hid (∀ W, Below X.heap.size X W → W.heap[w.heap.size + 1]? = some (.cells #[.slice none 0 0, .slice none 0 0] 49 (0, 0))) := Lib.hid (fun W hW => (hW.block (w.heap.size + 1) (by omega)).trans hgb)
    replace hbx := Lib.hid hbx
    replace e2 := e2
    clear hga hgb hri m1
    go_wp2
    refine D_begin (fun w' => w'.cell? ⟨w.heap.size, 0, none⟩ = some (.slice A1 n d1) ∧ w'.cell? ⟨w.heap.size, 1, none⟩ = some (.slice A2 m d2)) (fun _ => True) 99 (by kernel_rfl) ?_
    change wpAnyD _ _ _ _ _ _ _ _ _ _ W1.drew
    simp only [List.size_toArray, List.length_cons, List.length_nil, Nat.reduceAdd, Array.replicate_succ, Array.replicate_zero, List.push_toArray, List.append_toArray, List.nil_append, List.cons_append]
    have b_Wd : Hid (Below X.heap.size X W1.drew) := Lib.hid hB1.drew
    have HS0 := HSf.out _ b_Wd.out
    have z_Wd : w.heap.size + 2 ≤ W1.drew.heap.size := by have := b_Wd.out.size; omega
    clear hB1
    generalize W1.drew = Wd at *
    refine D_take (i := 0) (v := ?_) rfl (by kernel_rfl) (by kernel_rfl) (by kernel_rfl) (by kernel_rfl) (fun _ _ _ h => h) (Or.inl ⟨by rfl, ?_⟩) HS0 (fun _ => trivial) ?_
    rotate_left; · intro w1 hw1; obtain ⟨hw1, hw2⟩ := hw1; go_simp; try with_reducible rfl
    try simp only [Act.put, List.getElem_toArray, List.getElem_cons_zero, List.getElem_cons_succ, List.setIfInBounds_toArray, List.set_cons_zero, List.set_cons_succ]
    refine D_take (i := 2) (v := ?_) rfl (by kernel_rfl) (by kernel_rfl) (by kernel_rfl) (by kernel_rfl) (fun _ _ _ h => h) (Or.inl ⟨by rfl, ?_⟩) HS0 (fun _ => trivial) ?_
    rotate_left; · intro w1 hw1; obtain ⟨hw1, hw2⟩ := hw1; go_simp; try with_reducible rfl
    try simp only [Act.put, List.getElem_toArray, List.getElem_cons_zero, List.getElem_cons_succ, List.setIfInBounds_toArray, List.set_cons_zero, List.set_cons_succ]
    refine D_take (i := 3) (v := ?_) rfl (by kernel_rfl) (by kernel_rfl) (by kernel_rfl) (by kernel_rfl) (fun _ _ _ h => h) (Or.inl ⟨by rfl, ?_⟩) HS0 (fun _ => trivial) ?_
    rotate_left; · intro w1 hw1; obtain ⟨hw1, hw2⟩ := hw1; go_simp; try with_reducible rfl
    try simp only [Act.put, List.getElem_toArray, List.getElem_cons_zero, List.getElem_cons_succ, List.setIfInBounds_toArray, List.set_cons_zero, List.set_cons_succ]
    refine D_take (i := 4) (v := ?_) rfl (by kernel_rfl) (by kernel_rfl) (by kernel_rfl) (by kernel_rfl) (fun _ _ _ h => h) (Or.inl ⟨by rfl, ?_⟩) HS0 (fun _ => trivial) ?_
    rotate_left; · intro w1 hw1; obtain ⟨hw1, hw2⟩ := hw1; go_simp; try with_reducible rfl
    try simp only [Act.put, List.getElem_toArray, List.getElem_cons_zero, List.getElem_cons_succ, List.setIfInBounds_toArray, List.set_cons_zero, List.set_cons_succ]
    refine D_take (i := 5) (v := ?_) rfl (by kernel_rfl) (by kernel_rfl) (by kernel_rfl) (by kernel_rfl) (fun _ _ _ h => h) (Or.inl ⟨by rfl, ?_⟩) HS0 (fun _ => trivial) ?_
    rotate_left; · intro w1 hw1; obtain ⟨hw1, hw2⟩ := hw1; go_simp; try with_reducible rfl
    try simp only [Act.put, List.getElem_toArray, List.getElem_cons_zero, List.getElem_cons_succ, List.setIfInBounds_toArray, List.set_cons_zero, List.set_cons_succ]
    refine D_take (i := 7) (v := ?_) rfl (by kernel_rfl) (by kernel_rfl) (by kernel_rfl) (by kernel_rfl) (fun _ _ _ h => h) (Or.inl ⟨by rfl, ?_⟩) HS0 (fun _ => trivial) ?_
    rotate_left; · intro w1 hw1; obtain ⟨hw1, hw2⟩ := hw1; go_simp; try with_reducible rfl
    try simp only [Act.put, List.getElem_toArray, List.getElem_cons_zero, List.getElem_cons_succ, List.setIfInBounds_toArray, List.set_cons_zero, List.set_cons_succ]
    refine D_take (i := 8) (v := ?_) rfl (by kernel_rfl) (by kernel_rfl) (by kernel_rfl) (by kernel_rfl) (fun _ _ _ h => h) (Or.inl ⟨by rfl, ?_⟩) HS0 (fun _ => trivial) ?_
    rotate_left; · intro w1 hw1; obtain ⟨hw1, hw2⟩ := hw1; go_simp; try with_reducible rfl
    try simp only [Act.put, List.getElem_toArray, List.getElem_cons_zero, List.getElem_cons_succ, List.setIfInBounds_toArray, List.set_cons_zero, List.set_cons_succ]
    refine D_take (i := 9) (v := ?_) rfl (by kernel_rfl) (by kernel_rfl) (by kernel_rfl) (by kernel_rfl) (fun _ _ _ h => h) (Or.inl ⟨by rfl, ?_⟩) HS0 (fun _ => trivial) ?_
    rotate_left; · intro w1 hw1; obtain ⟨hw1, hw2⟩ := hw1; go_simp; try with_reducible rfl
    try simp only [Act.put, List.getElem_toArray, List.getElem_cons_zero, List.getElem_cons_succ, List.setIfInBounds_toArray, List.set_cons_zero, List.set_cons_succ]
    clear HS0
    refine D_two (i := 1) (j := 14) (by kernel_rfl) rfl rfl ?_ ?_
    · intro K hK
      rw [if_pos (by rfl)]
      go_wp2_with fail
      refine (hln.out Wd (Below.then_ hbx.out b_Wd.out)).mono ?_; rintro e U1 ⟨rfl, hL, hb⟩
      have b_U1 := Lib.hid (Below.then_ b_Wd.out hb)
      have z_U1 : w.heap.size + 2 ≤ (U1).heap.size := Nat.le_trans z_Wd hb.size
      have L_U1 := Lib.hid hL
      clear hL hb
      refine hK _ _ (HSf.out _ b_U1.out) (fun _ _ => trivial) ?_
      clear hK K
      try simp only [Act.put, Nat.zero_add, List.getElem_toArray, List.getElem_cons_zero, List.getElem_cons_succ, List.setIfInBounds_toArray, List.set_cons_zero, List.set_cons_succ]
      refine D_two (i := 6) (j := 14) (by kernel_rfl) rfl rfl ?_ ?_
      · intro K hK
        rw [if_pos (by rfl)]
        go_wp2_with fail
        refine (hfi.out _ _ _ _ U1 L_U1.out).mono ?_; rintro e U2 ⟨⟨fv, rfl, hO⟩, hb⟩
        have b_U2 := Lib.hid (Below.then_ b_U1.out hb)
        have z_U2 : w.heap.size + 2 ≤ (U2).heap.size := Nat.le_trans z_U1 hb.size
        have F_U2 := Lib.hid (hO.rd (by rw [hfl.out]; omega))
        clear hO hb
        refine hK _ _ (HSf.out _ b_U2.out) (fun _ _ => trivial) ?_
        clear hK K
        try simp only [Act.put, Nat.zero_add, List.getElem_toArray, List.getElem_cons_zero, List.getElem_cons_succ, List.setIfInBounds_toArray, List.set_cons_zero, List.set_cons_succ]
        refine D_two (i := 10) (j := 14) (by kernel_rfl) rfl rfl ?_ ?_
        · intro K hK
          rw [if_pos (by rfl)]
          go_wp2_with fail
          refine (hft.out fv U2 F_U2.out).mono ?_; rintro e U3 ⟨v, rfl, hO, hb⟩
          have b_U3 := Lib.hid (Below.then_ b_U2.out hb)
          have z_U3 : w.heap.size + 2 ≤ (U3).heap.size := Nat.le_trans z_U2 hb.size
          have l_U3 := hb.size
          obtain ⟨vA, vn, vc, vB, vm, vd, rfl⟩ := hO.shape
          have R_U3 := Lib.hid hO
          clear hO hb
          refine hK _ _ (HSf.out _ b_U3.out) (fun _ _ => trivial) ?_
          clear hK K
          try simp only [Act.put, Nat.zero_add, List.getElem_toArray, List.getElem_cons_zero, List.getElem_cons_succ, List.setIfInBounds_toArray, List.set_cons_zero, List.set_cons_succ]
          refine D_take (i := 11) (v := ?_) rfl (by kernel_rfl) (by kernel_rfl) (by kernel_rfl) (by kernel_rfl) (fun _ _ _ h => h) (Or.inl ⟨by rfl, ?_⟩) (HSf.out _ b_U3.out) (fun _ => trivial) ?_
          rotate_left; · intro w1 hw1; go_simp; try with_reducible rfl
          try simp only [Act.put, List.getElem_toArray, List.getElem_cons_zero, List.getElem_cons_succ, List.setIfInBounds_toArray, List.set_cons_zero, List.set_cons_succ]
          refine D_take (i := 12) (v := ?_) rfl (by kernel_rfl) (by kernel_rfl) (by kernel_rfl) (by kernel_rfl) (fun _ _ _ h => h) (Or.inl ⟨by rfl, ?_⟩) (HSf.out _ b_U3.out) (fun _ => trivial) ?_
          rotate_left; · intro w1 hw1; go_simp; try with_reducible rfl
          try simp only [Act.put, List.getElem_toArray, List.getElem_cons_zero, List.getElem_cons_succ, List.setIfInBounds_toArray, List.set_cons_zero, List.set_cons_succ]
          refine D_take (i := 13) (v := ?_) rfl (by kernel_rfl) (by kernel_rfl) (by kernel_rfl) (by kernel_rfl) (fun _ _ _ h => h) (Or.inl ⟨by rfl, ?_⟩) (HSf.out _ b_U3.out) (fun _ => trivial) ?_
          rotate_left; · intro w1 hw1; go_simp; try with_reducible rfl
          try simp only [Act.put, List.getElem_toArray, List.getElem_cons_zero, List.getElem_cons_succ, List.setIfInBounds_toArray, List.set_cons_zero, List.set_cons_succ]
          refine D_one (i := 14) (by kernel_rfl) rfl ?_
          intro K hK
          rw [if_pos (by rfl)]
          go_simp
          have hb : Below U3.heap.size U3 (U3.alloc (.cells #[.slice none 0 0, .slice none 0 0] 49)) := (Below.refl _ _).alloc (Nat.le_refl _) _
          have b_U4 := Lib.hid (Below.then_ b_U3.out hb)
          have z_U4 : w.heap.size + 2 ≤ (U3.alloc (.cells #[.slice none 0 0, .slice none 0 0] 49)).heap.size := Nat.le_trans z_U3 hb.size
          have R_U4 := Lib.hid (R_U3.out.below hb)
          have l_U4 : U2.heap.size ≤ (U3.alloc (.cells #[.slice none 0 0, .slice none 0 0] 49)).heap.size := Nat.le_trans l_U3 hb.size
          have N_U4 : Hid ((U3.alloc (.cells #[.slice none 0 0, .slice none 0 0] 49)).heap[U3.heap.size]? = some (.cells #[.slice none 0 0, .slice none 0 0] 49 (0, 0))) := Lib.hid (heap_alloc_new _ _)
          have q_U4 : U3.heap.size < (U3.alloc (.cells #[.slice none 0 0, .slice none 0 0] 49)).heap.size := by simp
          clear hb
          refine hK _ _ (HSf.out _ b_U4.out) (fun _ _ => trivial) ?_
          clear hK K
          try simp only [Act.put, Nat.zero_add, List.getElem_toArray, List.getElem_cons_zero, List.getElem_cons_succ, List.setIfInBounds_toArray, List.set_cons_zero, List.set_cons_succ]
          generalize hg_U4 : U3.alloc (.cells #[.slice none 0 0, .slice none 0 0] 49) = U4 at b_U4 z_U4 R_U4 l_U4 N_U4 q_U4 ⊢
          replace hg_U4 := Lib.hid hg_U4
          have gz : w.heap.size + 2 ≤ U3.heap.size := z_U3
          obtain ⟨p0, p1, p2, p3⟩ := ret_cell N_U4.out
          refine D_one (i := 15) (by kernel_rfl) rfl ?_
          intro K hK
          rw [if_pos (by rfl)]
          go_simp
          have b_E : Hid (Below X.heap.size X ((U4.setCell ⟨U3.heap.size, 0, none⟩ (.slice vA vn vc)).setCell ⟨U3.heap.size, 1, none⟩ (.slice vB vm vd))) := Lib.hid ((b_U4.out.setCell (p := ⟨U3.heap.size, 0, none⟩) (by simp only []; omega) _).setCell (p := ⟨U3.heap.size, 1, none⟩) (by simp only []; omega) _)
          have N_E := heap_set2 (.slice vA vn vc) (.slice vB vm vd) N_U4.out
          have R_E : Hid (OwnR ((U4.setCell ⟨U3.heap.size, 0, none⟩ (.slice vA vn vc)).setCell ⟨U3.heap.size, 1, none⟩ (.slice vB vm vd)) w.heap.size (.agg #[.slice vA vn vc, .slice vB vm vd]) (FM.getD ⟨[], []⟩)) := Lib.hid (own_apart (own_kept R_U4.out (by have := l_U4; have := z_U2; omega) (fun _ _ _ => rfl)) N_U4.out)
          have R_2 : ∀ g, w.heap.size + 2 ≤ g → True := fun _ _ => trivial
          refine hK _ _ (HSf.out _ b_E.out) (fun _ _ => trivial) ?_
          clear hK K R_2 p0 p1 p2 p3
          try simp only [Act.put, Nat.zero_add, List.getElem_toArray, List.getElem_cons_zero, List.getElem_cons_succ, List.setIfInBounds_toArray, List.set_cons_zero, List.set_cons_succ]
          generalize ((U4.setCell ⟨U3.heap.size, 0, none⟩ (.slice vA vn vc)).setCell ⟨U3.heap.size, 1, none⟩ (.slice vB vm vd)) = E at b_E N_E R_E ⊢
          refine D_one (i := 16) (by kernel_rfl) rfl ?_
          intro K hK
          rw [if_pos (by rfl)]
          go_simp
          refine hK _ _ (HSf.out _ b_E.out) (fun _ _ => trivial) ?_
          clear hK K
          try simp only [Act.put, Nat.zero_add, List.getElem_toArray, List.getElem_cons_zero, List.getElem_cons_succ, List.setIfInBounds_toArray, List.set_cons_zero, List.set_cons_succ]
          refine D_done (by kernel_rfl) ?_ _
          obtain ⟨c0, c1, -, -⟩ := ret_cell N_E
          have hgE := HG.out _ b_E.out
          obtain ⟨p0, p1, p2, p3⟩ := ret_cell hgE
          replace hgE := Lib.hid hgE
          replace N_E := Lib.hid N_E
          go_wp2
          refine bodyPost_ret (res_ct rfl _ _ (w.heap.size + 1) 49 #[.slice vA vn vc, .slice vB vm vd] (0, 0) _ rfl (heap_set2 _ _ hgE.out) rfl rfl rfl) rfl ?_
          rw [hr.out]
          exact ⟨_, rfl, own_apart R_E.out hgE.out, ((Below.then_ hbx.out b_E.out).setCell (p := ⟨w.heap.size + 1, 0, none⟩) (by simp) _).setCell (p := ⟨w.heap.size + 1, 1, none⟩) (by simp) _⟩
        · intro K hK
          rw [if_pos (by rfl)]
          go_simp
          have hb : Below U2.heap.size U2 (U2.alloc (.cells #[.slice none 0 0, .slice none 0 0] 49)) := (Below.refl _ _).alloc (Nat.le_refl _) _
          have b_U5 := Lib.hid (Below.then_ b_U2.out hb)
          have z_U5 : w.heap.size + 2 ≤ (U2.alloc (.cells #[.slice none 0 0, .slice none 0 0] 49)).heap.size := Nat.le_trans z_U2 hb.size
          have F_U5 := Lib.hid (F_U2.out.below hb (Nat.le_refl _))
          have N_U5 : Hid ((U2.alloc (.cells #[.slice none 0 0, .slice none 0 0] 49)).heap[U2.heap.size]? = some (.cells #[.slice none 0 0, .slice none 0 0] 49 (0, 0))) := Lib.hid (heap_alloc_new _ _)
          have q_U5 : U2.heap.size < (U2.alloc (.cells #[.slice none 0 0, .slice none 0 0] 49)).heap.size := by simp
          clear hb
          refine hK _ _ (HSf.out _ b_U5.out) (fun _ _ => trivial) ?_
          clear hK K
          try simp only [Act.put, Nat.zero_add, List.getElem_toArray, List.getElem_cons_zero, List.getElem_cons_succ, List.setIfInBounds_toArray, List.set_cons_zero, List.set_cons_succ]
          generalize hg_U5 : U2.alloc (.cells #[.slice none 0 0, .slice none 0 0] 49) = U5 at b_U5 z_U5 F_U5 N_U5 q_U5 ⊢
          replace hg_U5 := Lib.hid hg_U5
          refine D_one (i := 10) (by kernel_rfl) rfl ?_
          intro K hK
          rw [if_pos (by rfl)]
          go_wp2_with fail
          refine (hft.out fv U5 F_U5.out).mono ?_; rintro e U6 ⟨v, rfl, hO, hb⟩
          have b_U6 := Lib.hid (Below.then_ b_U5.out hb)
          have z_U6 : w.heap.size + 2 ≤ (U6).heap.size := Nat.le_trans z_U5 hb.size
          have N_U6 := Lib.hid ((hb.block _ (lt_of_block N_U5.out)).trans N_U5.out)
          have l_U6 := hb.size
          obtain ⟨vA, vn, vc, vB, vm, vd, rfl⟩ := hO.shape
          have R_U6 := Lib.hid hO
          clear hO hb
          refine hK _ _ (HSf.out _ b_U6.out) (fun _ _ => trivial) ?_
          clear hK K
          try simp only [Act.put, Nat.zero_add, List.getElem_toArray, List.getElem_cons_zero, List.getElem_cons_succ, List.setIfInBounds_toArray, List.set_cons_zero, List.set_cons_succ]
          refine D_take (i := 11) (v := ?_) rfl (by kernel_rfl) (by kernel_rfl) (by kernel_rfl) (by kernel_rfl) (fun _ _ _ h => h) (Or.inl ⟨by rfl, ?_⟩) (HSf.out _ b_U6.out) (fun _ => trivial) ?_
          rotate_left; · intro w1 hw1; go_simp; try with_reducible rfl
          try simp only [Act.put, List.getElem_toArray, List.getElem_cons_zero, List.getElem_cons_succ, List.setIfInBounds_toArray, List.set_cons_zero, List.set_cons_succ]
          refine D_take (i := 12) (v := ?_) rfl (by kernel_rfl) (by kernel_rfl) (by kernel_rfl) (by kernel_rfl) (fun _ _ _ h => h) (Or.inl ⟨by rfl, ?_⟩) (HSf.out _ b_U6.out) (fun _ => trivial) ?_
          rotate_left; · intro w1 hw1; go_simp; try with_reducible rfl
          try simp only [Act.put, List.getElem_toArray, List.getElem_cons_zero, List.getElem_cons_succ, List.setIfInBounds_toArray, List.set_cons_zero, List.set_cons_succ]
          refine D_take (i := 13) (v := ?_) rfl (by kernel_rfl) (by kernel_rfl) (by kernel_rfl) (by kernel_rfl) (fun _ _ _ h => h) (Or.inl ⟨by rfl, ?_⟩) (HSf.out _ b_U6.out) (fun _ => trivial) ?_
          rotate_left; · intro w1 hw1; go_simp; try with_reducible rfl
          try simp only [Act.put, List.getElem_toArray, List.getElem_cons_zero, List.getElem_cons_succ, List.setIfInBounds_toArray, List.set_cons_zero, List.set_cons_succ]
          have gz : w.heap.size + 2 ≤ U2.heap.size := z_U2
          obtain ⟨p0, p1, p2, p3⟩ := ret_cell N_U6.out
          refine D_one (i := 15) (by kernel_rfl) rfl ?_
          intro K hK
          rw [if_pos (by rfl)]
          go_simp
          have b_E : Hid (Below X.heap.size X ((U6.setCell ⟨U2.heap.size, 0, none⟩ (.slice vA vn vc)).setCell ⟨U2.heap.size, 1, none⟩ (.slice vB vm vd))) := Lib.hid ((b_U6.out.setCell (p := ⟨U2.heap.size, 0, none⟩) (by simp only []; omega) _).setCell (p := ⟨U2.heap.size, 1, none⟩) (by simp only []; omega) _)
          have N_E := heap_set2 (.slice vA vn vc) (.slice vB vm vd) N_U6.out
          have R_E : Hid (OwnR ((U6.setCell ⟨U2.heap.size, 0, none⟩ (.slice vA vn vc)).setCell ⟨U2.heap.size, 1, none⟩ (.slice vB vm vd)) w.heap.size (.agg #[.slice vA vn vc, .slice vB vm vd]) (FM.getD ⟨[], []⟩)) := Lib.hid (own_apart (own_kept R_U6.out (by have := l_U6; have := z_U5; omega) (fun _ _ _ => rfl)) N_U6.out)
          have R_2 : ∀ g, w.heap.size + 2 ≤ g → True := fun _ _ => trivial
          refine hK _ _ (HSf.out _ b_E.out) (fun _ _ => trivial) ?_
          clear hK K R_2 p0 p1 p2 p3
          try simp only [Act.put, Nat.zero_add, List.getElem_toArray, List.getElem_cons_zero, List.getElem_cons_succ, List.setIfInBounds_toArray, List.set_cons_zero, List.set_cons_succ]
          generalize ((U6.setCell ⟨U2.heap.size, 0, none⟩ (.slice vA vn vc)).setCell ⟨U2.heap.size, 1, none⟩ (.slice vB vm vd)) = E at b_E N_E R_E ⊢
          refine D_one (i := 16) (by kernel_rfl) rfl ?_
          intro K hK
          rw [if_pos (by rfl)]
          go_simp
          refine hK _ _ (HSf.out _ b_E.out) (fun _ _ => trivial) ?_
          clear hK K
          try simp only [Act.put, Nat.zero_add, List.getElem_toArray, List.getElem_cons_zero, List.getElem_cons_succ, List.setIfInBounds_toArray, List.set_cons_zero, List.set_cons_succ]
          refine D_done (by kernel_rfl) ?_ _
          obtain ⟨c0, c1, -, -⟩ := ret_cell N_E
          have hgE := HG.out _ b_E.out
          obtain ⟨p0, p1, p2, p3⟩ := ret_cell hgE
          replace hgE := Lib.hid hgE
          replace N_E := Lib.hid N_E
          go_wp2
          refine bodyPost_ret (res_ct rfl _ _ (w.heap.size + 1) 49 #[.slice vA vn vc, .slice vB vm vd] (0, 0) _ rfl (heap_set2 _ _ hgE.out) rfl rfl rfl) rfl ?_
          rw [hr.out]
          exact ⟨_, rfl, own_apart R_E.out hgE.out, ((Below.then_ hbx.out b_E.out).setCell (p := ⟨w.heap.size + 1, 0, none⟩) (by simp) _).setCell (p := ⟨w.heap.size + 1, 1, none⟩) (by simp) _⟩
      · intro K hK
        rw [if_pos (by rfl)]
        go_simp
        have hb : Below U1.heap.size U1 (U1.alloc (.cells #[.slice none 0 0, .slice none 0 0] 49)) := (Below.refl _ _).alloc (Nat.le_refl _) _
        have b_U7 := Lib.hid (Below.then_ b_U1.out hb)
        have z_U7 : w.heap.size + 2 ≤ (U1.alloc (.cells #[.slice none 0 0, .slice none 0 0] 49)).heap.size := Nat.le_trans z_U1 hb.size
        have L_U7 := Lib.hid (L_U1.out.below hb)
        have N_U7 : Hid ((U1.alloc (.cells #[.slice none 0 0, .slice none 0 0] 49)).heap[U1.heap.size]? = some (.cells #[.slice none 0 0, .slice none 0 0] 49 (0, 0))) := Lib.hid (heap_alloc_new _ _)
        have q_U7 : U1.heap.size < (U1.alloc (.cells #[.slice none 0 0, .slice none 0 0] 49)).heap.size := by simp
        clear hb
        refine hK _ _ (HSf.out _ b_U7.out) (fun _ _ => trivial) ?_
        clear hK K
        try simp only [Act.put, Nat.zero_add, List.getElem_toArray, List.getElem_cons_zero, List.getElem_cons_succ, List.setIfInBounds_toArray, List.set_cons_zero, List.set_cons_succ]
        generalize hg_U7 : U1.alloc (.cells #[.slice none 0 0, .slice none 0 0] 49) = U7 at b_U7 z_U7 L_U7 N_U7 q_U7 ⊢
        replace hg_U7 := Lib.hid hg_U7
        refine D_one (i := 6) (by kernel_rfl) rfl ?_
        intro K hK
        rw [if_pos (by rfl)]
        go_wp2_with fail
        refine (hfi.out _ _ _ _ U7 L_U7.out).mono ?_; rintro e U8 ⟨⟨fv, rfl, hO⟩, hb⟩
        have b_U8 := Lib.hid (Below.then_ b_U7.out hb)
        have z_U8 : w.heap.size + 2 ≤ (U8).heap.size := Nat.le_trans z_U7 hb.size
        have N_U8 := Lib.hid ((hb.block _ (lt_of_block N_U7.out)).trans N_U7.out)
        have F_U8 := Lib.hid (hO.rd (by rw [hfl.out]; omega))
        clear hO hb
        refine hK _ _ (HSf.out _ b_U8.out) (fun _ _ => trivial) ?_
        clear hK K
        try simp only [Act.put, Nat.zero_add, List.getElem_toArray, List.getElem_cons_zero, List.getElem_cons_succ, List.setIfInBounds_toArray, List.set_cons_zero, List.set_cons_succ]
        refine D_one (i := 10) (by kernel_rfl) rfl ?_
        intro K hK
        rw [if_pos (by rfl)]
        go_wp2_with fail
        refine (hft.out fv U8 F_U8.out).mono ?_; rintro e U9 ⟨v, rfl, hO, hb⟩
        have b_U9 := Lib.hid (Below.then_ b_U8.out hb)
        have z_U9 : w.heap.size + 2 ≤ (U9).heap.size := Nat.le_trans z_U8 hb.size
        have N_U9 := Lib.hid ((hb.block _ (lt_of_block N_U8.out)).trans N_U8.out)
        have l_U9 := hb.size
        obtain ⟨vA, vn, vc, vB, vm, vd, rfl⟩ := hO.shape
        have R_U9 := Lib.hid hO
        clear hO hb
        refine hK _ _ (HSf.out _ b_U9.out) (fun _ _ => trivial) ?_
        clear hK K
        try simp only [Act.put, Nat.zero_add, List.getElem_toArray, List.getElem_cons_zero, List.getElem_cons_succ, List.setIfInBounds_toArray, List.set_cons_zero, List.set_cons_succ]
        refine D_take (i := 11) (v := ?_) rfl (by kernel_rfl) (by kernel_rfl) (by kernel_rfl) (by kernel_rfl) (fun _ _ _ h => h) (Or.inl ⟨by rfl, ?_⟩) (HSf.out _ b_U9.out) (fun _ => trivial) ?_
        rotate_left; · intro w1 hw1; go_simp; try with_reducible rfl
        try simp only [Act.put, List.getElem_toArray, List.getElem_cons_zero, List.getElem_cons_succ, List.setIfInBounds_toArray, List.set_cons_zero, List.set_cons_succ]
        refine D_take (i := 12) (v := ?_) rfl (by kernel_rfl) (by kernel_rfl) (by kernel_rfl) (by kernel_rfl) (fun _ _ _ h => h) (Or.inl ⟨by rfl, ?_⟩) (HSf.out _ b_U9.out) (fun _ => trivial) ?_
        rotate_left; · intro w1 hw1; go_simp; try with_reducible rfl
        try simp only [Act.put, List.getElem_toArray, List.getElem_cons_zero, List.getElem_cons_succ, List.setIfInBounds_toArray, List.set_cons_zero, List.set_cons_succ]
        refine D_take (i := 13) (v := ?_) rfl (by kernel_rfl) (by kernel_rfl) (by kernel_rfl) (by kernel_rfl) (fun _ _ _ h => h) (Or.inl ⟨by rfl, ?_⟩) (HSf.out _ b_U9.out) (fun _ => trivial) ?_
        rotate_left; · intro w1 hw1; go_simp; try with_reducible rfl
        try simp only [Act.put, List.getElem_toArray, List.getElem_cons_zero, List.getElem_cons_succ, List.setIfInBounds_toArray, List.set_cons_zero, List.set_cons_succ]
        have gz : w.heap.size + 2 ≤ U1.heap.size := z_U1
        obtain ⟨p0, p1, p2, p3⟩ := ret_cell N_U9.out
        refine D_one (i := 15) (by kernel_rfl) rfl ?_
        intro K hK
        rw [if_pos (by rfl)]
        go_simp
        have b_E : Hid (Below X.heap.size X ((U9.setCell ⟨U1.heap.size, 0, none⟩ (.slice vA vn vc)).setCell ⟨U1.heap.size, 1, none⟩ (.slice vB vm vd))) := Lib.hid ((b_U9.out.setCell (p := ⟨U1.heap.size, 0, none⟩) (by simp only []; omega) _).setCell (p := ⟨U1.heap.size, 1, none⟩) (by simp only []; omega) _)
        have N_E := heap_set2 (.slice vA vn vc) (.slice vB vm vd) N_U9.out
        have R_E : Hid (OwnR ((U9.setCell ⟨U1.heap.size, 0, none⟩ (.slice vA vn vc)).setCell ⟨U1.heap.size, 1, none⟩ (.slice vB vm vd)) w.heap.size (.agg #[.slice vA vn vc, .slice vB vm vd]) (FM.getD ⟨[], []⟩)) := Lib.hid (own_apart (own_kept R_U9.out (by have := l_U9; have := z_U8; omega) (fun _ _ _ => rfl)) N_U9.out)
        have R_2 : ∀ g, w.heap.size + 2 ≤ g → True := fun _ _ => trivial
        refine hK _ _ (HSf.out _ b_E.out) (fun _ _ => trivial) ?_
        clear hK K R_2 p0 p1 p2 p3
        try simp only [Act.put, Nat.zero_add, List.getElem_toArray, List.getElem_cons_zero, List.getElem_cons_succ, List.setIfInBounds_toArray, List.set_cons_zero, List.set_cons_succ]
        generalize ((U9.setCell ⟨U1.heap.size, 0, none⟩ (.slice vA vn vc)).setCell ⟨U1.heap.size, 1, none⟩ (.slice vB vm vd)) = E at b_E N_E R_E ⊢
        refine D_one (i := 16) (by kernel_rfl) rfl ?_
        intro K hK
        rw [if_pos (by rfl)]
        go_simp
        refine hK _ _ (HSf.out _ b_E.out) (fun _ _ => trivial) ?_
        clear hK K
        try simp only [Act.put, Nat.zero_add, List.getElem_toArray, List.getElem_cons_zero, List.getElem_cons_succ, List.setIfInBounds_toArray, List.set_cons_zero, List.set_cons_succ]
        refine D_done (by kernel_rfl) ?_ _
        obtain ⟨c0, c1, -, -⟩ := ret_cell N_E
        have hgE := HG.out _ b_E.out
        obtain ⟨p0, p1, p2, p3⟩ := ret_cell hgE
        replace hgE := Lib.hid hgE
        replace N_E := Lib.hid N_E
        go_wp2
        refine bodyPost_ret (res_ct rfl _ _ (w.heap.size + 1) 49 #[.slice vA vn vc, .slice vB vm vd] (0, 0) _ rfl (heap_set2 _ _ hgE.out) rfl rfl rfl) rfl ?_
        rw [hr.out]
        exact ⟨_, rfl, own_apart R_E.out hgE.out, ((Below.then_ hbx.out b_E.out).setCell (p := ⟨w.heap.size + 1, 0, none⟩) (by simp) _).setCell (p := ⟨w.heap.size + 1, 1, none⟩) (by simp) _⟩
    · intro K hK
      rw [if_pos (by rfl)]
      go_simp
      have hb : Below Wd.heap.size Wd (Wd.alloc (.cells #[.slice none 0 0, .slice none 0 0] 49)) := (Below.refl _ _).alloc (Nat.le_refl _) _
      have b_U10 := Lib.hid (Below.then_ b_Wd.out hb)
      have z_U10 : w.heap.size + 2 ≤ (Wd.alloc (.cells #[.slice none 0 0, .slice none 0 0] 49)).heap.size := Nat.le_trans z_Wd hb.size
      have N_U10 : Hid ((Wd.alloc (.cells #[.slice none 0 0, .slice none 0 0] 49)).heap[Wd.heap.size]? = some (.cells #[.slice none 0 0, .slice none 0 0] 49 (0, 0))) := Lib.hid (heap_alloc_new _ _)
      have q_U10 : Wd.heap.size < (Wd.alloc (.cells #[.slice none 0 0, .slice none 0 0] 49)).heap.size := by simp
      clear hb
      refine hK _ _ (HSf.out _ b_U10.out) (fun _ _ => trivial) ?_
      clear hK K
      try simp only [Act.put, Nat.zero_add, List.getElem_toArray, List.getElem_cons_zero, List.getElem_cons_succ, List.setIfInBounds_toArray, List.set_cons_zero, List.set_cons_succ]
      generalize hg_U10 : Wd.alloc (.cells #[.slice none 0 0, .slice none 0 0] 49) = U10 at b_U10 z_U10 N_U10 q_U10 ⊢
      replace hg_U10 := Lib.hid hg_U10
      refine D_one (i := 1) (by kernel_rfl) rfl ?_
      intro K hK
      rw [if_pos (by rfl)]
      go_wp2_with fail
      refine (hln.out U10 (Below.then_ hbx.out b_U10.out)).mono ?_; rintro e U11 ⟨rfl, hL, hb⟩
      have b_U11 := Lib.hid (Below.then_ b_U10.out hb)
      have z_U11 : w.heap.size + 2 ≤ (U11).heap.size := Nat.le_trans z_U10 hb.size
      have N_U11 := Lib.hid ((hb.block _ (lt_of_block N_U10.out)).trans N_U10.out)
      have L_U11 := Lib.hid hL
      clear hL hb
      refine hK _ _ (HSf.out _ b_U11.out) (fun _ _ => trivial) ?_
      clear hK K
      try simp only [Act.put, Nat.zero_add, List.getElem_toArray, List.getElem_cons_zero, List.getElem_cons_succ, List.setIfInBounds_toArray, List.set_cons_zero, List.set_cons_succ]
      refine D_one (i := 6) (by kernel_rfl) rfl ?_
      intro K hK
      rw [if_pos (by rfl)]
      go_wp2_with fail
      refine (hfi.out _ _ _ _ U11 L_U11.out).mono ?_; rintro e U12 ⟨⟨fv, rfl, hO⟩, hb⟩
      have b_U12 := Lib.hid (Below.then_ b_U11.out hb)
      have z_U12 : w.heap.size + 2 ≤ (U12).heap.size := Nat.le_trans z_U11 hb.size
      have N_U12 := Lib.hid ((hb.block _ (lt_of_block N_U11.out)).trans N_U11.out)
      have F_U12 := Lib.hid (hO.rd (by rw [hfl.out]; omega))
      clear hO hb
      refine hK _ _ (HSf.out _ b_U12.out) (fun _ _ => trivial) ?_
      clear hK K
      try simp only [Act.put, Nat.zero_add, List.getElem_toArray, List.getElem_cons_zero, List.getElem_cons_succ, List.setIfInBounds_toArray, List.set_cons_zero, List.set_cons_succ]
      refine D_one (i := 10) (by kernel_rfl) rfl ?_
      intro K hK
      rw [if_pos (by rfl)]
      go_wp2_with fail
      refine (hft.out fv U12 F_U12.out).mono ?_; rintro e U13 ⟨v, rfl, hO, hb⟩
      have b_U13 := Lib.hid (Below.then_ b_U12.out hb)
      have z_U13 : w.heap.size + 2 ≤ (U13).heap.size := Nat.le_trans z_U12 hb.size
      have N_U13 := Lib.hid ((hb.block _ (lt_of_block N_U12.out)).trans N_U12.out)
      have l_U13 := hb.size
      obtain ⟨vA, vn, vc, vB, vm, vd, rfl⟩ := hO.shape
      have R_U13 := Lib.hid hO
      clear hO hb
      refine hK _ _ (HSf.out _ b_U13.out) (fun _ _ => trivial) ?_
      clear hK K
      try simp only [Act.put, Nat.zero_add, List.getElem_toArray, List.getElem_cons_zero, List.getElem_cons_succ, List.setIfInBounds_toArray, List.set_cons_zero, List.set_cons_succ]
      refine D_take (i := 11) (v := ?_) rfl (by kernel_rfl) (by kernel_rfl) (by kernel_rfl) (by kernel_rfl) (fun _ _ _ h => h) (Or.inl ⟨by rfl, ?_⟩) (HSf.out _ b_U13.out) (fun _ => trivial) ?_
      rotate_left; · intro w1 hw1; go_simp; try with_reducible rfl
      try simp only [Act.put, List.getElem_toArray, List.getElem_cons_zero, List.getElem_cons_succ, List.setIfInBounds_toArray, List.set_cons_zero, List.set_cons_succ]
      refine D_take (i := 12) (v := ?_) rfl (by kernel_rfl) (by kernel_rfl) (by kernel_rfl) (by kernel_rfl) (fun _ _ _ h => h) (Or.inl ⟨by rfl, ?_⟩) (HSf.out _ b_U13.out) (fun _ => trivial) ?_
      rotate_left; · intro w1 hw1; go_simp; try with_reducible rfl
      try simp only [Act.put, List.getElem_toArray, List.getElem_cons_zero, List.getElem_cons_succ, List.setIfInBounds_toArray, List.set_cons_zero, List.set_cons_succ]
      refine D_take (i := 13) (v := ?_) rfl (by kernel_rfl) (by kernel_rfl) (by kernel_rfl) (by kernel_rfl) (fun _ _ _ h => h) (Or.inl ⟨by rfl, ?_⟩) (HSf.out _ b_U13.out) (fun _ => trivial) ?_
      rotate_left; · intro w1 hw1; go_simp; try with_reducible rfl
      try simp only [Act.put, List.getElem_toArray, List.getElem_cons_zero, List.getElem_cons_succ, List.setIfInBounds_toArray, List.set_cons_zero, List.set_cons_succ]
      have gz : w.heap.size + 2 ≤ Wd.heap.size := z_Wd
      obtain ⟨p0, p1, p2, p3⟩ := ret_cell N_U13.out
      refine D_one (i := 15) (by kernel_rfl) rfl ?_
      intro K hK
      rw [if_pos (by rfl)]
      go_simp
      have b_E : Hid (Below X.heap.size X ((U13.setCell ⟨Wd.heap.size, 0, none⟩ (.slice vA vn vc)).setCell ⟨Wd.heap.size, 1, none⟩ (.slice vB vm vd))) := Lib.hid ((b_U13.out.setCell (p := ⟨Wd.heap.size, 0, none⟩) (by simp only []; omega) _).setCell (p := ⟨Wd.heap.size, 1, none⟩) (by simp only []; omega) _)
      have N_E := heap_set2 (.slice vA vn vc) (.slice vB vm vd) N_U13.out
      have R_E : Hid (OwnR ((U13.setCell ⟨Wd.heap.size, 0, none⟩ (.slice vA vn vc)).setCell ⟨Wd.heap.size, 1, none⟩ (.slice vB vm vd)) w.heap.size (.agg #[.slice vA vn vc, .slice vB vm vd]) (FM.getD ⟨[], []⟩)) := Lib.hid (own_apart (own_kept R_U13.out (by have := l_U13; have := z_U12; omega) (fun _ _ _ => rfl)) N_U13.out)
      have R_2 : ∀ g, w.heap.size + 2 ≤ g → True := fun _ _ => trivial
      refine hK _ _ (HSf.out _ b_E.out) (fun _ _ => trivial) ?_
      clear hK K R_2 p0 p1 p2 p3
      try simp only [Act.put, Nat.zero_add, List.getElem_toArray, List.getElem_cons_zero, List.getElem_cons_succ, List.setIfInBounds_toArray, List.set_cons_zero, List.set_cons_succ]
      generalize ((U13.setCell ⟨Wd.heap.size, 0, none⟩ (.slice vA vn vc)).setCell ⟨Wd.heap.size, 1, none⟩ (.slice vB vm vd)) = E at b_E N_E R_E ⊢
      refine D_one (i := 16) (by kernel_rfl) rfl ?_
      intro K hK
      rw [if_pos (by rfl)]
      go_simp
      refine hK _ _ (HSf.out _ b_E.out) (fun _ _ => trivial) ?_
      clear hK K
      try simp only [Act.put, Nat.zero_add, List.getElem_toArray, List.getElem_cons_zero, List.getElem_cons_succ, List.setIfInBounds_toArray, List.set_cons_zero, List.set_cons_succ]
      refine D_done (by kernel_rfl) ?_ _
      obtain ⟨c0, c1, -, -⟩ := ret_cell N_E
      have hgE := HG.out _ b_E.out
      obtain ⟨p0, p1, p2, p3⟩ := ret_cell hgE
      replace hgE := Lib.hid hgE
      replace N_E := Lib.hid N_E
      go_wp2
      refine bodyPost_ret (res_ct rfl _ _ (w.heap.size + 1) 49 #[.slice vA vn vc, .slice vB vm vd] (0, 0) _ rfl (heap_set2 _ _ hgE.out) rfl rfl rfl) rfl ?_
      rw [hr.out]
      exact ⟨_, rfl, own_apart R_E.out hgE.out, ((Below.then_ hbx.out b_E.out).setCell (p := ⟨w.heap.size + 1, 0, none⟩) (by simp) _).setCell (p := ⟨w.heap.size + 1, 1, none⟩) (by simp) _⟩
  · have hr : Hid (shortR r = (⟨[], []⟩, rightR r)) := Lib.hid (by rw [shortR, if_pos h0])
    have hne : (rightR r != 0) = true := by rw [bne_iff_ne]; exact h0
    generalize rightR r = x at *
    clear hR h0
    generalize r.by_.length = n at *
    generalize r.start.length = m at *
    go_enter Tryd.func48, Tryd.ntmps48
    go_wp2_with fail
    generalize (w.alloc (.cells #[.slice A1 n d1, .slice A2 m d2] 49)).alloc (.cells #[.slice none 0 0, .slice none 0 0] 49) = X at *
    refine hri.out.mono ?_; rintro e W1 ⟨rfl, hB1⟩
    have hB2 := Below.then_ hbx hB1
    have hg2 := (hB1.block (w.heap.size + 1) (by omega)).trans hgb
    obtain ⟨p0, p1, p2, p3⟩ := ret_cell hg2
    clear hga hgb hsz hbx
    go_wp2
    refine bodyPost_ret (res_ct rfl _ _ (w.heap.size + 1) 49 #[.slice none 0 0, .slice none 0 0] (0, 0) _ rfl (heap_set2 _ _ hg2) rfl rfl rfl) rfl ?_
    rw [hr.out]
    exact ⟨_, rfl, ⟨_, _, rfl, OwnI_nil _ _, OwnI_nil _ _⟩, (hB2.setCell (p := ⟨w.heap.size + 1, 0, none⟩) (by simp) _).setCell (p := ⟨w.heap.size + 1, 1, none⟩) (by simp) _⟩
end Go.Proofs.YtfljkcmijnhgkaaDoor
