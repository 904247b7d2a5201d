/- The reference's fits: its contract. -/
import Derived.Test.YtfljkcmijnhgkaaDoorKu
import Derived.Test.YtfljkcmijnhgkaaDoorKj
namespace Go.Proofs.YtfljkcmijnhgkaaDoor
open Go.RowKit
set_option linter.unusedSimpArgs false

/-- Rows and numbers of the call's own, in blocks apart. -/
structure FitSt (base : Nat) (W : World) (rv bv : Value) (rs : List (List Int)) (bs : List Int) (vs : List Value) : Prop where
  m : OwnMv W base rv rs vs
  b : OwnI W base bv bs
  apart : ∀ u ∈ vs, u.ownBlock = none ∨ u.ownBlock ≠ bv.ownBlock
theorem FitSt.kept {base : Nat} {W W' : World} {rv bv : Value} {rs : List (List Int)} {bs : List Int} {vs : List Value} (h : FitSt base W rv bv rs bs vs) (hb : Below W.heap.size W W') : FitSt base W' rv bv rs bs vs :=
  ⟨h.m.kept hb, h.b.below hb, h.apart⟩
theorem FitSt.row {base lo n : Nat} {W W' : World} {rv rv' bv rowv : Value} {rs : List (List Int)} {r bs : List Int} {vs : List Value} (h : FitSt base W rv bv rs bs vs) (hr : OwnI W lo rowv r) (hlo : base ≤ lo)
    (hnew : ∀ q, rowv.ownBlock = some q → (∀ u ∈ vs, u.ownBlock ≠ some q) ∧ bv.ownBlock ≠ some q) (hn : n = rs.length + 1) (hown : W'.ownsRow base 23 1 rv' n (vs ++ [rowv])) (hg : W.grownBy W' rv.ownBlock) : FitSt base W' rv' bv (rs ++ [r]) bs (vs ++ [rowv]) := by
  refine ⟨h.m.snoc (hr.base hlo) (fun x hx => ?_) hown hn hg, OwnI.base (World.ownsRow.kept h.b hg (own_ne h.b h.m.outer (by decide))) (Nat.le_refl _), fun u hu => ?_⟩
  · rcases hq : rowv.ownBlock with _ | q
    · by_cases hx0 : x.ownBlock = none
      · exact .inl hx0
      · exact .inr hx0
    · exact .inr ((hnew q hq).1 x hx)
  · rcases List.mem_append.1 hu with hu | hu
    · exact h.apart u hu
    · obtain rfl : u = rowv := by simpa using hu
      rcases hq : u.ownBlock with _ | q
      · exact .inl rfl
      · exact .inr (fun e => (hnew q hq).2 e.symm)
theorem FitSt.num {base n g : Nat} {W W' : World} {rv bv bv' : Value} {rs : List (List Int)} {bs : List Int} {x : Int} {vs : List Value} (h : FitSt base W rv bv rs bs vs) (hn : n = bs.length + 1)
    (hown : W'.ownsRow base 3 1 bv' n (ints bs ++ [.int .i64 x])) (hg : W.grownBy W' bv.ownBlock) (hat : bv.ownBlock = some g ∨ g = W.heap.size) (hbv : bv'.ownBlock = some g) : FitSt base W' rv bv' rs (bs ++ [x]) vs := by
  refine ⟨h.m.grownBy hg (own_ne h.m.outer h.b (by decide)) h.apart, ?_, fun u hu => ?_⟩
  · unfold OwnI; rw [List.length_append, List.length_singleton, ints_append, ← hn]; exact hown
  · rcases hq : u.ownBlock with _ | q
    · exact .inl rfl
    · refine .inr fun e => ?_
      rw [hbv] at e
      rcases hat with hat | hat
      · rcases h.apart u hu with h2 | h2
        · rw [hq] at h2; cases h2
        · rw [hq, hat] at h2; exact h2 e
      · have := (h.m.ge u hu q hq).2
        simp only [Option.some.injEq] at e; omega
/-- A row, its first k numbers filled. -/
def rowP (f : Nat → Int) (o k : Nat) : List Int := (List.range o).map fun j => if j < k then f j else 0
theorem rowP_len (f : Nat → Int) (o k : Nat) : (rowP f o k).length = o := by simp [rowP]
theorem rowP_zero (f : Nat → Int) (o : Nat) : rowP f o 0 = List.replicate o 0 := by
  apply List.ext_getElem?; intro j
  simp only [rowP, List.getElem?_map, List.getElem?_replicate, Nat.not_lt_zero, if_false]
  by_cases h : j < o
  · rw [List.getElem?_range h, if_pos h]; rfl
  · rw [List.getElem?_eq_none (by simpa using h), if_neg h]; rfl
theorem rowP_set (f : Nat → Int) {o k : Nat} (h : k < o) : (rowP f o k).set k (f k) = rowP f o (k + 1) := by
  apply List.ext_getElem?; intro j
  rw [List.getElem?_set]
  simp only [rowP, List.getElem?_map, List.length_map, List.length_range]
  by_cases hj : j < o
  · rw [List.getElem?_range hj]
    by_cases e : k = j
    · subst e; simp [h]
    · simp only [if_neg e, Option.map_some]
      by_cases h2 : j < k
      · rw [if_pos h2, if_pos (by omega)]
      · rw [if_neg h2, if_neg (by omega)]
  · rw [List.getElem?_eq_none (l := List.range o) (by simpa using hj), if_neg (by omega)]; rfl
theorem rowP_end (f : Nat → Int) (o : Nat) : rowP f o o = (List.range o).map f := by
  unfold rowP
  exact List.map_congr_left fun j hj => if_pos (List.mem_range.1 hj)
theorem mat_take (f : Nat → Nat → Int) {n m k : Nat} (hk : k < n) : (mat f n m).take k ++ [(List.range m).map (f k)] = (mat f n m).take (k + 1) := by
  have hl : k < (mat f n m).length := by rw [mat_len]; exact hk
  rw [List.take_succ_eq_append_getElem hl]
  simp [mat]
theorem drop_take_snoc (l : List Int) {o k : Nat} (h : o + k < l.length) : (l.drop o).take k ++ [l.getD (o + k) 0] = (l.drop o).take (k + 1) := by
  have hl : k < (l.drop o).length := by rw [List.length_drop]; omega
  rw [List.take_succ_eq_append_getElem hl, List.getElem_drop, List.getD_eq_getElem?_getD, List.getElem?_eq_getElem h]; rfl
set_option maxRecDepth 100000 in
set_option maxHeartbeats 6400000 in
theorem fits_any (l : List Int) (o : Nat) (v : Value) (w : World) (h : RdI w v l) (hl : l.length ≤ 900) (ho : o ≤ l.length) (hb : ∀ x ∈ l, 0 ≤ x ∧ x < 65521) :
    Calls Tryd.prog 146 #[v, .int .i64 o] w fun e w' => (∃ p, e = .returned (.tuple #[p, .bool (fitO l o).isSome]) ∧ OwnI w' w.heap.size p ((fitO l o).getD [])) ∧ Below w.heap.size w w' := by
  obtain ⟨iI, hiI, hI0, hI1, hI2⟩ := info_parts infoI
  obtain ⟨iR, hiR, hR0, hR1, hR2⟩ := info_parts infoR
  obtain ⟨A, c, rfl, h1, h2, h3⟩ := h.open_
  have hmk := run_make_row' (P := Tryd.prog) 23 3 _ _ Tryd.underlying23 infoI rfl .i64 .i64 o (by omega) (by omega)
  have hsol := Lib.hid (fun rv bv W hrv hbv => Solution_any (rowsL l o) (l.drop o) (l.length - o) o rv bv W hrv hbv (okM_rowsL hb o) (by simp) (fun x hx => hb x (List.mem_of_mem_drop hx)) (by omega) (by omega))
  have hF : Hid (fitO l o = solvedM (rowsL l o) (l.drop o) o) := Lib.hid rfl
  have hrl := Lib.hid (fun r (hr : r ∈ rowsL l o) => ((okM_rowsL hb o).2 r hr).1)
  have hlr := Lib.hid (show (rowsL l o).length = l.length - o by unfold rowsL; exact mat_len _ _ _)
  have hrt := Lib.hid (fun k (hk : k < l.length - o) => show (rowsL l o).take k ++ [(List.range o).map fun j => l.getD (o + k - 1 - j) 0] = (rowsL l o).take (k + 1) from mat_take _ hk)
  have hdt := Lib.hid (fun k (hk : o + k < l.length) => drop_take_snoc l hk)
  have hdl := Lib.hid (show (l.drop o).length = l.length - o by simp)
  generalize rowsL l o = RS at *
  generalize l.drop o = BS at *
  generalize fitO l o = FO at *
  have hx := Lib.hid (fun k (hk : k < l.length) => h3 k hk)
  clear h3 h hb
  obtain ⟨f, hf⟩ : ∃ f : Nat → Int, f = fun k => l.getD k 0 := ⟨_, rfl⟩
  have hfe : ∀ k, l.getD k 0 = f k := fun k => by rw [hf]
  simp only [hfe] at hx hrt hdt
  clear hf hfe
  generalize l.length = N at *
  go_enter Tryd.func146, Tryd.ntmps146
  go_wp2
  go_loopw [6, 7, 8] (fun rv bv ii wr => ∃ k : Nat, k ≤ N - o ∧ ii = .int .i64 ((o + k : Nat) : Int) ∧ Hid (Below w.heap.size w wr) ∧ Hid (∃ vs, FitSt w.heap.size wr rv bv (RS.take k) (BS.take k) vs)) (fun _ _ ii _ => N - (intOf ii).toNat)
  case atStart => exact ⟨0, Nat.zero_le _, by simp, Lib.hid (Below.refl _ _), Lib.hid ⟨[], by rw [List.take_zero, List.take_zero]; exact ⟨OwnMv_nil _ _, OwnI_nil _ _, fun u hu => by cases hu⟩⟩⟩
  case round =>
    obtain ⟨k, hk, rfl, hB, hM⟩ := hrel
    rename Value => bv
    rename_i rv
    by_cases hlt : o + k < N
    · have hkl : (RS.take k).length = k := by rw [List.length_take, hlr.out]; omega
      have hbl : (BS.take k).length = k := by rw [List.length_take, hdl.out]; omega
      have hrt1 := Lib.hid (hrt.out k (by omega))
      have hdt1 := Lib.hid (hdt.out k hlt)
      obtain ⟨vs, hSt⟩ := hM.out
      obtain ⟨A1, c1, rfl⟩ := own_shape hSt.m.outer
      obtain ⟨B1, d1, rfl⟩ := own_shape hSt.b
      rw [hkl, hbl] at hSt ⊢
      have hvs : vs.length = k := by rw [hSt.m.len, hkl]
      have hrvl : Hid (∀ q, (Value.slice A1 k c1).ownBlock = some q → q < wr.heap.size) := Lib.hid (fun q hq => by
        have := hSt.m.outer; rw [hkl] at this; exact (this.lt q hq).2)
      have hbvl : Hid (∀ q, (Value.slice B1 k d1).ownBlock = some q → q < wr.heap.size) := Lib.hid (fun q hq => by
        have := hSt.b; unfold OwnI at this; rw [hbl] at this; exact (this.lt q hq).2)
      have hvsl : Hid (∀ u ∈ vs, ∀ q, u.ownBlock = some q → q < wr.heap.size) := Lib.hid (fun u hu q hq => (hSt.m.ge u hu q hq).2)
      replace hSt := Lib.hid hSt
      replace hkl := Lib.hid hkl
      replace hbl := Lib.hid hbl
      have hBs := hB.out.size
      have h0 := Lib.hid (OwnI_made wr wr.heap.size o (Nat.le_refl _) (by unfold maxLen; omega))
      have hB0 : Hid (Below wr.heap.size wr (wr.alloc (.cells (madeCells #[.int .i64 0] o) 3))) := Lib.hid ((Below.refl _ _).alloc (Nat.le_refl _) _)
      have n1 : ((o + k : Nat) : Int) < (N : Int) := by omega
      have n0 : (0 : Int) ≤ ((o + k : Nat) : Int) := by omega
      clear hM hvs
      generalize hn : o + k = n at *
      replace hn := Lib.hid hn
      go_wp2
      generalize wr.alloc (.cells (madeCells #[.int .i64 0] o) 3) = w1 at h0 hB0 ⊢
      go_loopw [10] (fun jj wr2 => ∃ j : Nat, j ≤ o ∧ jj = .int .i64 j ∧ Hid (Below wr.heap.size wr wr2) ∧ Hid (OwnI wr2 wr.heap.size (.slice (some ⟨wr.heap.size, 0, none⟩) o o) (rowP (fun j => f (n - 1 - j)) o j))) (fun jj _ => o - (intOf jj).toNat)
      case atStart => exact ⟨0, Nat.zero_le _, rfl, hB0, Lib.hid (by rw [rowP_zero]; exact h0.out)⟩
      case round =>
        obtain ⟨j, hj, rfl, hB2, hX⟩ := hrel
        rename World => wr2
        by_cases hjo : j < o
        · obtain ⟨bb, ob, rfl, hc⟩ := hx.out (n - 1 - j) (by omega)
          have hc' := ((hB.out.trans (hB2.out.mono hBs)).cell (World.block_lt_of_cell? w _ hc)).trans hc
          obtain ⟨hxc, hxf⟩ := hX.out.num (k := j) (by rw [rowP_len]; exact hjo)
          have hput := hX.out.put j (f (n - 1 - j))
          rw [rowP_set (fun j => f (n - 1 - j)) hjo] at hput
          have hB3 : Hid (Below wr.heap.size wr (wr2.setCell ⟨wr.heap.size, j, none⟩ (.int .i64 (f (n - 1 - j))))) := Lib.hid (hB2.out.setCell (Nat.le_refl _) _)
          replace hput := Lib.hid hput
          clear hc hX hB2
          have e1 : ((n : Int) - 1 - (j : Int)) = ((n - 1 - j : Nat) : Int) := by have := hn.out; omega
          generalize f (n - 1 - j) = y at *
          generalize (rowP (fun j => f (n - 1 - j)) o j).getD j 0 = z at hxc
          have q1 : (j : Int) < (o : Int) := by omega
          have q0 : (0 : Int) ≤ (j : Int) := by omega
          have q2 : ((n - 1 - j : Nat) : Int) < (N : Int) := by omega
          have q3 : (0 : Int) ≤ ((n - 1 - j : Nat) : Int) := by omega
          generalize hp : n - 1 - j = p at *
          replace hp := Lib.hid hp
          go_wp2
          go_roundw
          case rel => exact ⟨j + 1, by omega, by go_num, hB3, hput⟩
          case measure => simp [intOf] <;> omega
        · obtain rfl : j = o := by omega
          rw [rowP_end] at hX
          have hrw : Hid ((List.range j).map (fun k => f (n - 1 - k)) = (List.range j).map fun j => f (n - 1 - j)) := Lib.hid rfl
          obtain ⟨row, hrow⟩ : ∃ row, row = (List.range j).map fun j => f (n - 1 - j) := ⟨_, rfl⟩
          rw [← hrow] at hX hrt1
          obtain ⟨bx, ox, rfl, hcx⟩ := hx.out n (by omega)
          have HSw : Hid (∀ W, Below w.heap.size w W → W.cell? ⟨bx, ox + n, none⟩ = some (.int .i64 (f n))) := Lib.hid (fun W hW => (hW.cell (World.block_lt_of_cell? w _ hcx)).trans hcx)
          have tw := Lib.hid (hB.out.trans (hB2.out.mono hBs))
          have sd := Lib.hid (hSt.out.kept hB2.out)
          have zw := hB2.out.size
          have hjl : Hid (row.length = j) := Lib.hid (by rw [hrow]; simp)
          clear hcx hrow hrw hmk
          generalize f n = x at *
          have HS0 := HSw.out wr2.drew tw.out.drew
          go_wp2
          refine D_begin (fun w' => w'.cell? ⟨bx, ox + n, none⟩ = some (.int .i64 x)) (fun _ => True) 12 (by kernel_rfl) ?_
          change wpAnyD _ _ _ _ _ _ _ _ _ _ wr2.drew
          simp only [List.size_toArray, List.length_cons, List.length_nil, Nat.reduceAdd, Array.replicate_succ, Array.replicate_zero, List.push_toArray, List.append_toArray, List.nil_append, List.cons_append]
          refine D_take (i := 0) (v := ?_) rfl (by kernel_rfl) (by kernel_rfl) (by kernel_rfl) (by kernel_rfl) (fun _ _ _ h => h) (Or.inl ⟨by rfl, ?_⟩) HS0 (fun _ => trivial) ?_
          rotate_left; · intro w1 hw1; go_simp; try with_reducible rfl
          try simp only [Act.put, List.getElem_toArray, List.getElem_cons_zero, List.getElem_cons_succ, List.setIfInBounds_toArray, List.set_cons_zero, List.set_cons_succ]
          refine D_take (i := 1) (v := ?_) rfl (by kernel_rfl) (by kernel_rfl) (by kernel_rfl) (by kernel_rfl) (fun _ _ _ h => h) (Or.inl ⟨by rfl, ?_⟩) HS0 (fun _ => trivial) ?_
          rotate_left; · intro w1 hw1; go_simp; try with_reducible rfl
          try simp only [Act.put, List.getElem_toArray, List.getElem_cons_zero, List.getElem_cons_succ, List.setIfInBounds_toArray, List.set_cons_zero, List.set_cons_succ]
          refine D_take (i := 4) (v := ?_) rfl (by kernel_rfl) (by kernel_rfl) (by kernel_rfl) (by kernel_rfl) (fun _ _ _ h => h) (Or.inl ⟨by rfl, ?_⟩) HS0 (fun _ => trivial) ?_
          rotate_left; · intro w1 hw1; go_simp; try with_reducible rfl
          try simp only [Act.put, List.getElem_toArray, List.getElem_cons_zero, List.getElem_cons_succ, List.setIfInBounds_toArray, List.set_cons_zero, List.set_cons_succ]
          refine D_take (i := 5) (v := ?_) rfl (by kernel_rfl) (by kernel_rfl) (by kernel_rfl) (by kernel_rfl) (fun _ _ _ h => h) (Or.inl ⟨by rfl, ?_⟩) HS0 (fun _ => trivial) ?_
          rotate_left; · intro w1 hw1; go_simp; try with_reducible rfl
          try simp only [Act.put, List.getElem_toArray, List.getElem_cons_zero, List.getElem_cons_succ, List.setIfInBounds_toArray, List.set_cons_zero, List.set_cons_succ]
          refine D_take (i := 6) (v := ?_) rfl (by kernel_rfl) (by kernel_rfl) (by kernel_rfl) (by kernel_rfl) (fun _ _ _ h => h) (Or.inl ⟨by rfl, ?_⟩) HS0 (fun _ => trivial) ?_
          rotate_left; · intro w1 hw1; go_simp; try with_reducible rfl
          try simp only [Act.put, List.getElem_toArray, List.getElem_cons_zero, List.getElem_cons_succ, List.setIfInBounds_toArray, List.set_cons_zero, List.set_cons_succ]
          refine D_take (i := 7) (v := ?_) rfl (by kernel_rfl) (by kernel_rfl) (by kernel_rfl) (by kernel_rfl) (fun _ _ _ h => h) (Or.inl ⟨by rfl, ?_⟩) HS0 (fun _ => trivial) ?_
          rotate_left; · intro w1 hw1; go_simp; try with_reducible rfl
          try simp only [Act.put, List.getElem_toArray, List.getElem_cons_zero, List.getElem_cons_succ, List.setIfInBounds_toArray, List.set_cons_zero, List.set_cons_succ]
          refine D_take (i := 8) (v := ?_) rfl (by kernel_rfl) (by kernel_rfl) (by kernel_rfl) (by kernel_rfl) (fun _ _ _ h => h) (Or.inl ⟨by rfl, ?_⟩) HS0 (fun _ => trivial) ?_
          rotate_left; · intro w1 hw1; go_simp; try with_reducible rfl
          try simp only [Act.put, List.getElem_toArray, List.getElem_cons_zero, List.getElem_cons_succ, List.setIfInBounds_toArray, List.set_cons_zero, List.set_cons_succ]
          replace tw := Lib.hid tw.out.drew
          have hdd : Below wr2.heap.size wr2 wr2.drew := (Below.refl _ _).drew
          replace sd := Lib.hid (sd.out.kept hdd)
          replace hX := Lib.hid (hX.out.below hdd)
          have zd : wr.heap.size ≤ wr2.drew.heap.size := zw
          clear hdd HS0 hB2 zw
          generalize wr2.drew = Wd at *
          have t_Wd := tw
          have st_Wd := sd
          have r_Wd := hX
          have zd_Wd := zd
          clear tw sd hX zd
          refine D_two (i := 2) (j := 9) (by kernel_rfl) rfl rfl ?_ ?_
          · intro K hK
            rw [if_pos (by rfl)]
            go_simp
            have hb : Below Wd.heap.size Wd (Wd.alloc (.cells #[.slice (some ⟨wr.heap.size, 0, none⟩) j j] 23)) := (Below.refl _ _).alloc (Nat.le_refl _) _
            have t_W1 := Lib.hid (t_Wd.out.alloc (t_Wd.out.size) (.cells #[.slice (some ⟨wr.heap.size, 0, none⟩) j j] 23))
            have st_W1 := Lib.hid (st_Wd.out.kept hb)
            have zd_W1 : wr.heap.size ≤ (Wd.alloc (.cells #[.slice (some ⟨wr.heap.size, 0, none⟩) j j] 23)).heap.size := Nat.le_trans zd_Wd hb.size
            have r_W1 := Lib.hid (r_Wd.out.below hb)
            have s2_W1 : Hid (∀ (q : Nat) u, [.slice (some ⟨wr.heap.size, 0, none⟩) j j][q]? = some u → (Wd.alloc (.cells #[.slice (some ⟨wr.heap.size, 0, none⟩) j j] 23)).cell? ((⟨Wd.heap.size, 0, none⟩ : Addr).add q) = some u) := Lib.hid (cell_one_new Wd _ _)
            have l2_W1 : Wd.heap.size < (Wd.alloc (.cells #[.slice (some ⟨wr.heap.size, 0, none⟩) j j] 23)).heap.size := by simp
            refine hK _ _ (HSw.out _ t_W1.out) (fun _ _ => trivial) ?_
            try simp only [Act.put, Nat.zero_add, List.getElem_toArray, List.getElem_cons_zero, List.getElem_cons_succ, List.setIfInBounds_toArray, List.set_cons_zero, List.set_cons_succ]
            clear hK K hb
            generalize hg_W1 : Wd.alloc (.cells #[.slice (some ⟨wr.heap.size, 0, none⟩) j j] 23) = W1 at t_W1 st_W1 zd_W1 r_W1 s2_W1 l2_W1 ⊢
            replace hg_W1 := Lib.hid hg_W1
            refine D_two (i := 3) (j := 9) (by kernel_rfl) rfl rfl ?_ ?_
            · intro K hK
              refine step_append_lies _ (by rfl) _ _ _ (by rfl) w.heap.size 23 iR _ 1 24 Tryd.underlying22 hiR hR0 hR1 hR2 rfl (by omega) (.slice A1 k c1) k vs (by rfl) (by have := st_W1.out.m.outer; rwa [hkl.out] at this) ⟨Wd.heap.size, 0, none⟩ 1 1 [.slice (some ⟨wr.heap.size, 0, none⟩) j j] (by rfl) (by rfl) s2_W1.out (by simp [Value.oneCell']) (by omega) (by unfold maxLen; omega) (by omega) (t_W1.out.size) W1.heap.size rfl ?_
              intro g3 cap3 W2 hown3 hgrow3 hat3 hlt3
              have t_W2 := Lib.hid (t_W1.out.grown hgrow3 (t_W1.out.size) (fun q hq => by have := st_W1.out.m.outer; rw [hkl.out] at this; exact (this.lt q hq).1))
              have st_W2 := Lib.hid (st_W1.out.row r_W1.out hBs (fun q hq => by have e : wr.heap.size = q := (by simpa [Value.ownBlock] using hq); exact ⟨fun u hu hc => by have := hvsl.out u hu q hc; omega, fun hc => by have := hbvl.out q hc; omega⟩) (by rw [hkl.out]) hown3 hgrow3)
              have zd_W2 : wr.heap.size ≤ W2.heap.size := Nat.le_trans zd_W1 hgrow3.size
              clear hown3 hgrow3 hat3 hlt3
              refine hK _ _ (HSw.out _ t_W2.out) (fun _ _ => trivial) ?_
              try simp only [Act.put, Nat.zero_add, List.getElem_toArray, List.getElem_cons_zero, List.getElem_cons_succ, List.setIfInBounds_toArray, List.set_cons_zero, List.set_cons_succ]
              clear hK K
              refine D_one (i := 9) (by kernel_rfl) rfl ?_
              intro K hK
              rw [if_pos (by rfl)]
              go_simp
              have hb : Below W2.heap.size W2 (W2.alloc (.cells #[.int .i64 x] 3)) := (Below.refl _ _).alloc (Nat.le_refl _) _
              have t_W3 := Lib.hid (t_W2.out.alloc (t_W2.out.size) (.cells #[.int .i64 x] 3))
              have st_W3 := Lib.hid (st_W2.out.kept hb)
              have zd_W3 : wr.heap.size ≤ (W2.alloc (.cells #[.int .i64 x] 3)).heap.size := Nat.le_trans zd_W2 hb.size
              have s9_W3 : Hid (∀ (q : Nat) u, [.int .i64 x][q]? = some u → (W2.alloc (.cells #[.int .i64 x] 3)).cell? ((⟨W2.heap.size, 0, none⟩ : Addr).add q) = some u) := Lib.hid (cell_one_new W2 _ _)
              have l9_W3 : W2.heap.size < (W2.alloc (.cells #[.int .i64 x] 3)).heap.size := by simp
              refine hK _ _ (HSw.out _ t_W3.out) (fun _ _ => trivial) ?_
              try simp only [Act.put, Nat.zero_add, List.getElem_toArray, List.getElem_cons_zero, List.getElem_cons_succ, List.setIfInBounds_toArray, List.set_cons_zero, List.set_cons_succ]
              clear hK K hb
              generalize hg_W3 : W2.alloc (.cells #[.int .i64 x] 3) = W3 at t_W3 st_W3 zd_W3 s9_W3 l9_W3 ⊢
              replace hg_W3 := Lib.hid hg_W3
              refine D_one (i := 10) (by kernel_rfl) rfl ?_
              intro K hK
              refine step_append_lies _ (by rfl) _ _ _ (by rfl) w.heap.size 3 iI _ 1 8 Tryd.underlying23 hiI hI0 hI1 hI2 rfl (by omega) (.slice B1 k d1) k (ints (BS.take k)) (by rfl) (by have := st_W3.out.b; unfold OwnI at this; rwa [hbl.out] at this) ⟨W2.heap.size, 0, none⟩ 1 1 [.int .i64 x] (by rfl) (by rfl) s9_W3.out (by simp [Value.oneCell']) (by omega) (by unfold maxLen; omega) (by omega) (t_W3.out.size) W3.heap.size rfl ?_
              intro g4 cap4 W4 hown4 hgrow4 hat4 hlt4
              have t_W4 := Lib.hid (t_W3.out.grown hgrow4 (t_W3.out.size) (fun q hq => by have := st_W3.out.b; unfold OwnI at this; rw [hbl.out] at this; exact (this.lt q hq).1))
              have st_W4 := Lib.hid (st_W3.out.num (by rw [hbl.out]) hown4 hgrow4 hat4 rfl)
              rw [hrt1.out, hdt1.out] at st_W4
              clear hown4 hgrow4 hat4 hlt4
              refine hK _ _ (HSw.out _ t_W4.out) (fun _ _ => trivial) ?_
              try simp only [Act.put, Nat.zero_add, List.getElem_toArray, List.getElem_cons_zero, List.getElem_cons_succ, List.setIfInBounds_toArray, List.set_cons_zero, List.set_cons_succ]
              clear hK K
              refine D_one (i := 11) (by kernel_rfl) rfl ?_
              intro K hK
              rw [if_pos (by rfl)]
              go_simp
              refine hK _ _ (HSw.out _ t_W4.out) (fun _ _ => trivial) ?_
              try simp only [Act.put, Nat.zero_add, List.getElem_toArray, List.getElem_cons_zero, List.getElem_cons_succ, List.setIfInBounds_toArray, List.set_cons_zero, List.set_cons_succ]
              clear hK K
              refine D_one (i := 12) (by kernel_rfl) rfl ?_
              intro K hK
              rw [if_pos (by rfl)]
              go_simp
              refine hK _ _ (HSw.out _ t_W4.out) (fun _ _ => trivial) ?_
              try simp only [Act.put, Nat.zero_add, List.getElem_toArray, List.getElem_cons_zero, List.getElem_cons_succ, List.setIfInBounds_toArray, List.set_cons_zero, List.set_cons_succ]
              clear hK K
              refine D_done (by kernel_rfl) ?_ _
              go_wp2
              go_roundw
              case rel => exact ⟨k + 1, by have := hn.out; omega, by have := hn.out; go_num, t_W4, Lib.hid ⟨_, st_W4.out⟩⟩
              case measure => simp [intOf] <;> omega
            · intro K hK
              rw [if_pos (by rfl)]
              go_simp
              have hb : Below W1.heap.size W1 (W1.alloc (.cells #[.int .i64 x] 3)) := (Below.refl _ _).alloc (Nat.le_refl _) _
              have t_W5 := Lib.hid (t_W1.out.alloc (t_W1.out.size) (.cells #[.int .i64 x] 3))
              have st_W5 := Lib.hid (st_W1.out.kept hb)
              have zd_W5 : wr.heap.size ≤ (W1.alloc (.cells #[.int .i64 x] 3)).heap.size := Nat.le_trans zd_W1 hb.size
              have r_W5 := Lib.hid (r_W1.out.below hb)
              have s2_W5 : Hid (∀ (q : Nat) u, [.slice (some ⟨wr.heap.size, 0, none⟩) j j][q]? = some u → (W1.alloc (.cells #[.int .i64 x] 3)).cell? ((⟨Wd.heap.size, 0, none⟩ : Addr).add q) = some u) := Lib.hid (fun q u hj => (hb.cell (World.block_lt_of_cell? _ _ (s2_W1.out q u hj))).trans (s2_W1.out q u hj))
              have s9_W5 : Hid (∀ (q : Nat) u, [.int .i64 x][q]? = some u → (W1.alloc (.cells #[.int .i64 x] 3)).cell? ((⟨W1.heap.size, 0, none⟩ : Addr).add q) = some u) := Lib.hid (cell_one_new W1 _ _)
              have l9_W5 : W1.heap.size < (W1.alloc (.cells #[.int .i64 x] 3)).heap.size := by simp
              refine hK _ _ (HSw.out _ t_W5.out) (fun _ _ => trivial) ?_
              try simp only [Act.put, Nat.zero_add, List.getElem_toArray, List.getElem_cons_zero, List.getElem_cons_succ, List.setIfInBounds_toArray, List.set_cons_zero, List.set_cons_succ]
              clear hK K hb
              generalize hg_W5 : W1.alloc (.cells #[.int .i64 x] 3) = W5 at t_W5 st_W5 zd_W5 r_W5 s2_W5 s9_W5 l9_W5 ⊢
              replace hg_W5 := Lib.hid hg_W5
              refine D_one (i := 3) (by kernel_rfl) rfl ?_
              intro K hK
              refine step_append_lies _ (by rfl) _ _ _ (by rfl) w.heap.size 23 iR _ 1 24 Tryd.underlying22 hiR hR0 hR1 hR2 rfl (by omega) (.slice A1 k c1) k vs (by rfl) (by have := st_W5.out.m.outer; rwa [hkl.out] at this) ⟨Wd.heap.size, 0, none⟩ 1 1 [.slice (some ⟨wr.heap.size, 0, none⟩) j j] (by rfl) (by rfl) s2_W5.out (by simp [Value.oneCell']) (by omega) (by unfold maxLen; omega) (by omega) (t_W5.out.size) W5.heap.size rfl ?_
              intro g3 cap3 W6 hown3 hgrow3 hat3 hlt3
              have t_W6 := Lib.hid (t_W5.out.grown hgrow3 (t_W5.out.size) (fun q hq => by have := st_W5.out.m.outer; rw [hkl.out] at this; exact (this.lt q hq).1))
              have st_W6 := Lib.hid (st_W5.out.row r_W5.out hBs (fun q hq => by have e : wr.heap.size = q := (by simpa [Value.ownBlock] using hq); exact ⟨fun u hu hc => by have := hvsl.out u hu q hc; omega, fun hc => by have := hbvl.out q hc; omega⟩) (by rw [hkl.out]) hown3 hgrow3)
              have zd_W6 : wr.heap.size ≤ W6.heap.size := Nat.le_trans zd_W5 hgrow3.size
              have s9_W6 : Hid (∀ (q : Nat) u, [.int .i64 x][q]? = some u → W6.cell? ((⟨W1.heap.size, 0, none⟩ : Addr).add q) = some u) := Lib.hid (fun q u hj => (hgrow3.cell_far _ (World.block_lt_of_cell? _ _ (s9_W5.out q u hj)) (by rw [add_off]; intro e; have := hrvl.out W1.heap.size e.symm; omega)).trans (s9_W5.out q u hj))
              clear hown3 hgrow3 hat3 hlt3
              refine hK _ _ (HSw.out _ t_W6.out) (fun _ _ => trivial) ?_
              try simp only [Act.put, Nat.zero_add, List.getElem_toArray, List.getElem_cons_zero, List.getElem_cons_succ, List.setIfInBounds_toArray, List.set_cons_zero, List.set_cons_succ]
              clear hK K
              refine D_one (i := 10) (by kernel_rfl) rfl ?_
              intro K hK
              refine step_append_lies _ (by rfl) _ _ _ (by rfl) w.heap.size 3 iI _ 1 8 Tryd.underlying23 hiI hI0 hI1 hI2 rfl (by omega) (.slice B1 k d1) k (ints (BS.take k)) (by rfl) (by have := st_W6.out.b; unfold OwnI at this; rwa [hbl.out] at this) ⟨W1.heap.size, 0, none⟩ 1 1 [.int .i64 x] (by rfl) (by rfl) s9_W6.out (by simp [Value.oneCell']) (by omega) (by unfold maxLen; omega) (by omega) (t_W6.out.size) W6.heap.size rfl ?_
              intro g4 cap4 W7 hown4 hgrow4 hat4 hlt4
              have t_W7 := Lib.hid (t_W6.out.grown hgrow4 (t_W6.out.size) (fun q hq => by have := st_W6.out.b; unfold OwnI at this; rw [hbl.out] at this; exact (this.lt q hq).1))
              have st_W7 := Lib.hid (st_W6.out.num (by rw [hbl.out]) hown4 hgrow4 hat4 rfl)
              rw [hrt1.out, hdt1.out] at st_W7
              clear hown4 hgrow4 hat4 hlt4
              refine hK _ _ (HSw.out _ t_W7.out) (fun _ _ => trivial) ?_
              try simp only [Act.put, Nat.zero_add, List.getElem_toArray, List.getElem_cons_zero, List.getElem_cons_succ, List.setIfInBounds_toArray, List.set_cons_zero, List.set_cons_succ]
              clear hK K
              refine D_one (i := 11) (by kernel_rfl) rfl ?_
              intro K hK
              rw [if_pos (by rfl)]
              go_simp
              refine hK _ _ (HSw.out _ t_W7.out) (fun _ _ => trivial) ?_
              try simp only [Act.put, Nat.zero_add, List.getElem_toArray, List.getElem_cons_zero, List.getElem_cons_succ, List.setIfInBounds_toArray, List.set_cons_zero, List.set_cons_succ]
              clear hK K
              refine D_one (i := 12) (by kernel_rfl) rfl ?_
              intro K hK
              rw [if_pos (by rfl)]
              go_simp
              refine hK _ _ (HSw.out _ t_W7.out) (fun _ _ => trivial) ?_
              try simp only [Act.put, Nat.zero_add, List.getElem_toArray, List.getElem_cons_zero, List.getElem_cons_succ, List.setIfInBounds_toArray, List.set_cons_zero, List.set_cons_succ]
              clear hK K
              refine D_done (by kernel_rfl) ?_ _
              go_wp2
              go_roundw
              case rel => exact ⟨k + 1, by have := hn.out; omega, by have := hn.out; go_num, t_W7, Lib.hid ⟨_, st_W7.out⟩⟩
              case measure => simp [intOf] <;> omega
          · intro K hK
            rw [if_pos (by rfl)]
            go_simp
            have hb : Below Wd.heap.size Wd (Wd.alloc (.cells #[.int .i64 x] 3)) := (Below.refl _ _).alloc (Nat.le_refl _) _
            have t_W8 := Lib.hid (t_Wd.out.alloc (t_Wd.out.size) (.cells #[.int .i64 x] 3))
            have st_W8 := Lib.hid (st_Wd.out.kept hb)
            have zd_W8 : wr.heap.size ≤ (Wd.alloc (.cells #[.int .i64 x] 3)).heap.size := Nat.le_trans zd_Wd hb.size
            have r_W8 := Lib.hid (r_Wd.out.below hb)
            have s9_W8 : Hid (∀ (q : Nat) u, [.int .i64 x][q]? = some u → (Wd.alloc (.cells #[.int .i64 x] 3)).cell? ((⟨Wd.heap.size, 0, none⟩ : Addr).add q) = some u) := Lib.hid (cell_one_new Wd _ _)
            have l9_W8 : Wd.heap.size < (Wd.alloc (.cells #[.int .i64 x] 3)).heap.size := by simp
            refine hK _ _ (HSw.out _ t_W8.out) (fun _ _ => trivial) ?_
            try simp only [Act.put, Nat.zero_add, List.getElem_toArray, List.getElem_cons_zero, List.getElem_cons_succ, List.setIfInBounds_toArray, List.set_cons_zero, List.set_cons_succ]
            clear hK K hb
            generalize hg_W8 : Wd.alloc (.cells #[.int .i64 x] 3) = W8 at t_W8 st_W8 zd_W8 r_W8 s9_W8 l9_W8 ⊢
            replace hg_W8 := Lib.hid hg_W8
            refine D_one (i := 2) (by kernel_rfl) rfl ?_
            intro K hK
            rw [if_pos (by rfl)]
            go_simp
            have hb : Below W8.heap.size W8 (W8.alloc (.cells #[.slice (some ⟨wr.heap.size, 0, none⟩) j j] 23)) := (Below.refl _ _).alloc (Nat.le_refl _) _
            have t_W9 := Lib.hid (t_W8.out.alloc (t_W8.out.size) (.cells #[.slice (some ⟨wr.heap.size, 0, none⟩) j j] 23))
            have st_W9 := Lib.hid (st_W8.out.kept hb)
            have zd_W9 : wr.heap.size ≤ (W8.alloc (.cells #[.slice (some ⟨wr.heap.size, 0, none⟩) j j] 23)).heap.size := Nat.le_trans zd_W8 hb.size
            have r_W9 := Lib.hid (r_W8.out.below hb)
            have s9_W9 : Hid (∀ (q : Nat) u, [.int .i64 x][q]? = some u → (W8.alloc (.cells #[.slice (some ⟨wr.heap.size, 0, none⟩) j j] 23)).cell? ((⟨Wd.heap.size, 0, none⟩ : Addr).add q) = some u) := Lib.hid (fun q u hj => (hb.cell (World.block_lt_of_cell? _ _ (s9_W8.out q u hj))).trans (s9_W8.out q u hj))
            have s2_W9 : Hid (∀ (q : Nat) u, [.slice (some ⟨wr.heap.size, 0, none⟩) j j][q]? = some u → (W8.alloc (.cells #[.slice (some ⟨wr.heap.size, 0, none⟩) j j] 23)).cell? ((⟨W8.heap.size, 0, none⟩ : Addr).add q) = some u) := Lib.hid (cell_one_new W8 _ _)
            have l2_W9 : W8.heap.size < (W8.alloc (.cells #[.slice (some ⟨wr.heap.size, 0, none⟩) j j] 23)).heap.size := by simp
            refine hK _ _ (HSw.out _ t_W9.out) (fun _ _ => trivial) ?_
            try simp only [Act.put, Nat.zero_add, List.getElem_toArray, List.getElem_cons_zero, List.getElem_cons_succ, List.setIfInBounds_toArray, List.set_cons_zero, List.set_cons_succ]
            clear hK K hb
            generalize hg_W9 : W8.alloc (.cells #[.slice (some ⟨wr.heap.size, 0, none⟩) j j] 23) = W9 at t_W9 st_W9 zd_W9 r_W9 s9_W9 s2_W9 l2_W9 ⊢
            replace hg_W9 := Lib.hid hg_W9
            refine D_one (i := 3) (by kernel_rfl) rfl ?_
            intro K hK
            refine step_append_lies _ (by rfl) _ _ _ (by rfl) w.heap.size 23 iR _ 1 24 Tryd.underlying22 hiR hR0 hR1 hR2 rfl (by omega) (.slice A1 k c1) k vs (by rfl) (by have := st_W9.out.m.outer; rwa [hkl.out] at this) ⟨W8.heap.size, 0, none⟩ 1 1 [.slice (some ⟨wr.heap.size, 0, none⟩) j j] (by rfl) (by rfl) s2_W9.out (by simp [Value.oneCell']) (by omega) (by unfold maxLen; omega) (by omega) (t_W9.out.size) W9.heap.size rfl ?_
            intro g3 cap3 W10 hown3 hgrow3 hat3 hlt3
            have t_W10 := Lib.hid (t_W9.out.grown hgrow3 (t_W9.out.size) (fun q hq => by have := st_W9.out.m.outer; rw [hkl.out] at this; exact (this.lt q hq).1))
            have st_W10 := Lib.hid (st_W9.out.row r_W9.out hBs (fun q hq => by have e : wr.heap.size = q := (by simpa [Value.ownBlock] using hq); exact ⟨fun u hu hc => by have := hvsl.out u hu q hc; omega, fun hc => by have := hbvl.out q hc; omega⟩) (by rw [hkl.out]) hown3 hgrow3)
            have zd_W10 : wr.heap.size ≤ W10.heap.size := Nat.le_trans zd_W9 hgrow3.size
            have s9_W10 : Hid (∀ (q : Nat) u, [.int .i64 x][q]? = some u → W10.cell? ((⟨Wd.heap.size, 0, none⟩ : Addr).add q) = some u) := Lib.hid (fun q u hj => (hgrow3.cell_far _ (World.block_lt_of_cell? _ _ (s9_W9.out q u hj)) (by rw [add_off]; intro e; have := hrvl.out Wd.heap.size e.symm; omega)).trans (s9_W9.out q u hj))
            clear hown3 hgrow3 hat3 hlt3
            refine hK _ _ (HSw.out _ t_W10.out) (fun _ _ => trivial) ?_
            try simp only [Act.put, Nat.zero_add, List.getElem_toArray, List.getElem_cons_zero, List.getElem_cons_succ, List.setIfInBounds_toArray, List.set_cons_zero, List.set_cons_succ]
            clear hK K
            refine D_one (i := 10) (by kernel_rfl) rfl ?_
            intro K hK
            refine step_append_lies _ (by rfl) _ _ _ (by rfl) w.heap.size 3 iI _ 1 8 Tryd.underlying23 hiI hI0 hI1 hI2 rfl (by omega) (.slice B1 k d1) k (ints (BS.take k)) (by rfl) (by have := st_W10.out.b; unfold OwnI at this; rwa [hbl.out] at this) ⟨Wd.heap.size, 0, none⟩ 1 1 [.int .i64 x] (by rfl) (by rfl) s9_W10.out (by simp [Value.oneCell']) (by omega) (by unfold maxLen; omega) (by omega) (t_W10.out.size) W10.heap.size rfl ?_
            intro g4 cap4 W11 hown4 hgrow4 hat4 hlt4
            have t_W11 := Lib.hid (t_W10.out.grown hgrow4 (t_W10.out.size) (fun q hq => by have := st_W10.out.b; unfold OwnI at this; rw [hbl.out] at this; exact (this.lt q hq).1))
            have st_W11 := Lib.hid (st_W10.out.num (by rw [hbl.out]) hown4 hgrow4 hat4 rfl)
            rw [hrt1.out, hdt1.out] at st_W11
            clear hown4 hgrow4 hat4 hlt4
            refine hK _ _ (HSw.out _ t_W11.out) (fun _ _ => trivial) ?_
            try simp only [Act.put, Nat.zero_add, List.getElem_toArray, List.getElem_cons_zero, List.getElem_cons_succ, List.setIfInBounds_toArray, List.set_cons_zero, List.set_cons_succ]
            clear hK K
            refine D_one (i := 11) (by kernel_rfl) rfl ?_
            intro K hK
            rw [if_pos (by rfl)]
            go_simp
            refine hK _ _ (HSw.out _ t_W11.out) (fun _ _ => trivial) ?_
            try simp only [Act.put, Nat.zero_add, List.getElem_toArray, List.getElem_cons_zero, List.getElem_cons_succ, List.setIfInBounds_toArray, List.set_cons_zero, List.set_cons_succ]
            clear hK K
            refine D_one (i := 12) (by kernel_rfl) rfl ?_
            intro K hK
            rw [if_pos (by rfl)]
            go_simp
            refine hK _ _ (HSw.out _ t_W11.out) (fun _ _ => trivial) ?_
            try simp only [Act.put, Nat.zero_add, List.getElem_toArray, List.getElem_cons_zero, List.getElem_cons_succ, List.setIfInBounds_toArray, List.set_cons_zero, List.set_cons_succ]
            clear hK K
            refine D_done (by kernel_rfl) ?_ _
            go_wp2
            go_roundw
            case rel => exact ⟨k + 1, by have := hn.out; omega, by have := hn.out; go_num, t_W11, Lib.hid ⟨_, st_W11.out⟩⟩
            case measure => simp [intOf] <;> omega
    · obtain rfl : N - o = k := by omega
      obtain ⟨vs, hSt⟩ := hM.out
      rw [List.take_of_length_le (by rw [hlr.out]; exact Nat.le_refl _), List.take_of_length_le (by rw [hdl.out]; exact Nat.le_refl _)] at hSt
      have hs := Lib.hid (hsol.out _ _ wr (hSt.m.m.rd (by rw [hlr.out]; omega) (fun r hr => by have := hrl.out r hr; omega)) (hSt.b.rd (by rw [hdl.out]; omega)))
      rw [← hF.out] at hs
      have hBs := hB.out.size
      have n1 : ¬ ((o + (N - o) : Nat) : Int) < (N : Int) := by omega
      generalize hn : o + (N - o) = n at *
      clear hn hSt hM
      go_wp2_with fail
      refine hs.out.mono ?_; rintro e W3 ⟨⟨p, rfl, hO⟩, hB4⟩
      replace hO := Lib.hid hO
      replace hB4 := Lib.hid hB4
      go_wp2
      go_ret2
      exact ⟨⟨_, rfl, hO.out.base hBs⟩, hB.out.trans (hB4.out.mono hBs)⟩
end Go.Proofs.YtfljkcmijnhgkaaDoor
