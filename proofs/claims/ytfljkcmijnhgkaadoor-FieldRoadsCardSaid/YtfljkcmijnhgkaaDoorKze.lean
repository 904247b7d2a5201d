/- FieldRoads: its contract. -/
import Derived.Test.YtfljkcmijnhgkaaDoorKwe
import Derived.Test.YtfljkcmijnhgkaaDoorKzc
import Derived.Test.YtfljkcmijnhgkaaDoorKzd
import Derived.Test.YtfljkcmijnhgkaaDoorKg
import Derived.Test.YtfljkcmijnhgkaaDoorKf
import Derived.Test.YtfljkcmijnhgkaaDoorKwa
import Derived.Test.YtfljkcmijnhgkaaDoorKn
namespace Go.Proofs.YtfljkcmijnhgkaaDoor
open Go.RowKit Go.Shelf
set_option linter.unusedSimpArgs false

theorem rightR_of {xs ys : List Int} {m : Nat} (hx : okL xs m) (hy : okL ys m) (hm : m ≤ 12) : rightR ⟨xs, ys⟩ = 0 := by
  rw [rightR, hx.1, hy.1, if_neg (by omega), if_neg (by omega), isRes_of hx.2, isRes_of hy.2, if_neg (by simp)]
theorem termK_zero (r : Rule) (h : r.by_.length = 0) (h2 : r.start.length = 0) (n : Nat) : termK r n = 0 := by
  rw [termK, if_neg (by omega), nextT, h]; rfl
theorem termR_of {r : Rule} (h : rightR r = 0) {n : Nat} (hn : n < 18446744073709551616) : termR r (n : Int) = (termK r n, 0) := by
  obtain ⟨o1, o2, o3, o4⟩ := rightR_ok h
  rw [termR, if_neg (by simpa using h), if_neg (by omega), Int.toNat_natCast, fromM_win o2 o3 o4 hn]
  by_cases h0 : r.by_.length = 0
  · rw [termK_zero r h0 (by omega), winT, h0]; rfl
  · rw [winT_get r n (by omega)]; simp
theorem frR_of {r : Rule} (h : rightR r = 0) {n : Nat} (hn : n < 18446744073709551616) : frR r (n : Int) = (0, ⟨r.by_, winT r n⟩) := by
  obtain ⟨o1, o2, o3, o4⟩ := rightR_ok h
  rw [frR, if_neg (by simpa using h), if_neg (by omega), Int.toNat_natCast, fromM_win o2 o3 o4 hn]
theorem okL_win {r : Rule} (hs : ∀ x ∈ r.start, 0 ≤ x ∧ x < 65521) (n : Nat) : okL (winT r n) r.by_.length := ⟨winT_len r n, fun x hx => by
  obtain ⟨j, _, rfl⟩ := List.mem_map.1 hx
  exact termK_bd hs _⟩
/-- What goes on from n on, of the first terms. -/
theorem firstL_mid (r : Rule) {n L : Nat} (h : n + r.by_.length ≤ L) : ((firstL r L).drop n).take r.by_.length = winT r n := by
  apply List.ext_getElem
  · rw [List.length_take, List.length_drop, firstL_len, winT_len]; omega
  · intro j h1 h2
    rw [winT_len] at h2
    rw [List.getElem_take, List.getElem_drop]
    have h3 := firstL_get r L (n + j) (by omega)
    rw [List.getD_eq_getElem?_getD, List.getElem?_eq_getElem (by rw [firstL_len]; omega)] at h3
    have h4 := winT_get r n h2
    rw [List.getD_eq_getElem?_getD, List.getElem?_eq_getElem (by rw [winT_len]; exact h2)] at h4
    simp only [Option.getD_some] at h3 h4
    rw [h3, h4]
/-- The road over the matrix. -/
theorem ends_win {r : Rule} (hl : r.start.length = r.by_.length) (hb : ∀ x ∈ r.by_, 0 ≤ x ∧ x < 65521) (hs : ∀ x ∈ r.start, 0 ≤ x ∧ x < 65521) (hm : 0 < r.by_.length) (n : Nat) :
    (pvL (powL (compM r.by_) r.by_.length n) r.start.reverse r.by_.length r.by_.length).reverse = winT r n := by
  have hA := okM_comp hb
  apply List.ext_getElem (by simp [pvL, winT])
  intro j h1 h2
  have hj : j < r.by_.length := by simpa [winT] using h2
  rw [List.getElem_reverse]
  simp only [pvL, List.getElem_map, List.getElem_range, List.length_map, List.length_range, winT]
  refine toF_inj ⟨Int.emod_nonneg _ (by decide), Int.emod_lt_of_pos _ (by decide)⟩ (termK_bd hs _) ?_
  rw [pvS, toF_emod, toF_psum]
  have h3 := comp_col hl hb hm n (r.by_.length - 1 - j) (by omega)
  rw [show n + r.by_.length - 1 - (r.by_.length - 1 - j) = n + j by omega] at h3
  show _ = seqF r (n + j)
  rw [← h3]
  refine S_congr fun q hq => ?_
  rw [toF_emod, toF_mul]
  congr 1
  show toF (r.start.reverse.getD q 0) = toF (termK r _)
  rw [termK, if_pos (by omega), List.getD_eq_getElem?_getD, List.getElem?_reverse (by omega), hl, List.getD_eq_getElem?_getD]
theorem powR_at {a : List (List Int)} {m : Nat} (h : okM a m m) (h1 : 1 ≤ m) (h2 : m ≤ 12) {e : Nat} (he : e < 18446744073709551616) : powR a (e : Int) = (0, powL a m e) := by
  rw [powR, squareM_of h h1 h2, if_neg (by simp), if_neg (by omega), Int.toNat_natCast, powMat_eq h h1 he]
theorem RdR.one {w : World} {a b : Value} {r : Rule} (h : RdR w (.agg #[a, b]) r) : RdI w a r.by_ ∧ RdI w b r.start := by
  obtain ⟨x, y, e, h1, h2⟩ := h
  obtain ⟨rfl, rfl⟩ : a = x ∧ b = y := by simpa using e
  exact ⟨h1, h2⟩
/-- A slice from k to h. -/
theorem run_mid (A : Option Addr) (n c k h : Nat) (W : World) (h1 : k ≤ h) (h2 : h ≤ n) (hc : n ≤ c) : (Instr.slice 23 (.slice A n c) (some (.int .i64 k)) (some (.int .i64 h)) none).run Tryd.prog W = .ok (.slice (if c = k then A else A.map (·.add k)) (h - k) (c - k)) W := by
  have hu : Tryd.prog.underlying 23 = some (.slice (Tryd.prog.elem 23)) := by kernel_rfl
  rw [run_slice_lh (t := 23) _ _ _ _ hu _ _ _ _ (by omega) (by omega) (by omega)]
  have hs : (sizeOf (Tryd.prog.elem 23)).run Tryd.prog W = .ok 1 W := by kernel_rfl
  rw [hs]
  simp only [Result.andThen, sliced, Int.toNat_natCast, Nat.mul_one]
theorem RdI.mid {w : World} {A : Option Addr} {n c k h : Nat} {xs : List Int} (hr : RdI w (.slice A n c) xs) (h1 : k ≤ h) (h2 : h ≤ n) : RdI w (.slice (if c = k then A else A.map (·.add k)) (h - k) (c - k)) ((xs.drop k).take (h - k)) := (hr.drop (by omega)).take (by omega)
set_option maxRecDepth 100000 in
set_option maxHeartbeats 6400000 in
theorem FieldRoads_any (od ta fr n1 : Nat) (v1 : Value) (w : World) (h1 : RdB w w.heap.size v1 n1) (hod : od < 256) (hta : ta < 65536) (hfr : fr < 18446744073709551616) (hJ : Joins w) :
    Calls Tryd.prog 11 #[v1, .int .u8 od, .int .u16 ta, .int .u64 fr] w fun e w' => e = .returned (.bool true) ∧ Below w.heap.size w w' := by
  have hA := Lib.hid (fun W (hW : Below w.heap.size w W) => awake_any W (hJ.below hW))
  have f1 := Lib.hid (Fill_any n1 v1 w h1)
  have hT := Lib.hid (Below.refl w.heap.size w)
  obtain ⟨m, hm⟩ : ∃ m, m = od % 9 := ⟨_, rfl⟩
  have hm2 : m ≤ 8 := by omega
  have e8 : (od : Int).tmod 9 = (m : Int) := by rw [Int.tmod_eq_emod_of_nonneg (by omega)]; omega
  obtain ⟨n, hn⟩ : ∃ n, n = ta % 2001 := ⟨_, rfl⟩
  have hn2 : n ≤ 2000 := by omega
  have e9 : (ta : Int).tmod 2001 = (n : Int) := by rw [Int.tmod_eq_emod_of_nonneg (by omega)]; omega
  replace hm := Lib.hid hm
  replace hn := Lib.hid hn
  replace hfr := Lib.hid hfr
  clear h1 hJ
  go_enter Tryd.func11, Tryd.ntmps11
  go_wp2_with fail
  refine (f1.out).mono ?_; rintro e V1 ⟨rfl, hS, hN1⟩
  replace hT := Lib.hid (Below.then_ hT.out hN1)
  have z_V1 := hN1.size; clear hN1
  replace hS := Lib.hid hS
  go_wp2_with fail
  refine (rule_any w.heap.size 0 m V1 hS.out (by omega) (by omega)).mono ?_; rintro e V2 ⟨⟨a, b, xs, ys, rfl, okx, oky, oa, ob, -⟩, -, hB2⟩
  obtain ⟨r, hr⟩ : ∃ r : Rule, r = ⟨xs, ys⟩ := ⟨_, rfl⟩
  obtain ⟨rfl, rfl⟩ : xs = r.by_ ∧ ys = r.start := by rw [hr]; exact ⟨rfl, rfl⟩
  clear hr
  have hok := Lib.hid (rightR_of okx oky (show m ≤ 12 by omega))
  have hok2 : Hid (rightR r = 0) := hok
  clear hok
  have hok := hok2
  clear hok2
  have rr0 := Lib.hid (OwnR.rd (r := r) (base := V1.heap.size) (w := V2) (v := .agg #[a, b]) ⟨a, b, rfl, oa, ob⟩ (by rw [okx.1]; omega) (by rw [oky.1]; omega))
  obtain ⟨A, ca, rfl⟩ := own_shape oa
  obtain ⟨B, cb, rfl⟩ := own_shape ob
  rw [okx.1] at rr0
  rw [oky.1] at rr0
  have ex := okx.1
  have ey := oky.1
  rw [ex, ey]
  replace okx := Lib.hid okx
  replace oky := Lib.hid oky
  replace hT := Lib.hid (hT.out.trans ((hB2.below (by omega)).mono (by omega)))
  have z_V2 := hB2.size; clear hB2
  clear oa ob hS f1
  replace ex := Lib.hid ex
  replace ey := Lib.hid ey
  have hP := Lib.hid (Below.refl V2.heap.size V2)
  obtain ⟨hN2, Y_0, Y_1, Y_z⟩ := box_new V2 (.slice A m ca) (.slice B m cb) 49
  replace hT := Lib.hid (Below.then_ hT.out hN2)
  replace hP := Lib.hid (Below.then_ hP.out hN2)
  go_wp2_with fail
  generalize V2.alloc (.cells #[.slice A m ca, .slice B m cb] 49) = Y at *
  clear hN2
  have rR := Lib.hid (fun W (hW : Below V2.heap.size V2 W) => rr0.out.below hW (Nat.le_refl _))
  clear rr0
  obtain ⟨L, hL⟩ : ∃ L, L = n + m + 1 := ⟨_, rfl⟩
  have eL : (n : Int) + (m : Int) + 1 = (L : Int) := by omega
  have hnm : n + m ≤ L := by omega
  have hnL : n < L := by omega
  have hL5 : L ≤ 3000 := by omega
  replace hL := Lib.hid hL
  obtain ⟨h, hh⟩ : ∃ h, h = n + m := ⟨_, rfl⟩
  have eh : IntKind.i64.wrap ((n : Int) + (m : Int)) = (h : Int) := by rw [hh]; exact IntWalk.i64_in _ ⟨by omega, by omega⟩
  replace eh := Lib.hid eh
  replace hh := Lib.hid hh
  have cG := Lib.hid (fun W (hW : Below V2.heap.size V2 W) => go1_any r L _ W (rR.out W hW) (by rw [ex.out, ey.out]; exact Nat.le_refl _) (by rw [ey.out]; omega) okx.out.2 oky.out.2 (by omega))
  have tR := Lib.hid (fun e (he : e < 18446744073709551616) => termR_of (r := r) hok.out he)
  have fR := Lib.hid (fun e (he : e < 18446744073709551616) => frR_of (r := r) hok.out he)
  have cT := Lib.hid (fun (e : Nat) (he : e ≤ 9223372036854775807) W (hW : Below V2.heap.size V2 W) => Term_any r e _ W (by omega) (rR.out W hW))
  have cF := Lib.hid (fun (e : Nat) (he : e ≤ 9223372036854775807) W (hW : Below V2.heap.size V2 W) => (fR.out e (by omega)) ▸ From_any r e _ W (by omega) (rR.out W hW))
  have cTn := Lib.hid (cT.out n (by omega))
  rw [tR.out n (by omega)] at cTn
  have cFn := Lib.hid (cF.out n (by omega))
  have q4 := Lib.hid (fun xs v u W (h1 : RdI W v xs) (h2 : RdI W u xs) => (decide_eq_true (show xs = xs from rfl)) ▸ Equal_any xs xs v u W h1 h2)
  have hmid : Hid (((firstL r L).drop n).take r.by_.length = winT r n) := Lib.hid (firstL_mid r (by rw [ex.out]; exact hnm))
  have hget : Hid ((firstL r L).getD n 0 = termK r n) := Lib.hid (firstL_get _ _ _ hnL)
  have hlen : Hid ((firstL r L).length = L) := Lib.hid (firstL_len r L)
  go_wp2_with fail
  refine (cG.out Y hP.out).mono ?_; rintro e X1 ⟨⟨u, rfl, ru⟩, hN3⟩
  replace hT := Lib.hid (Below.then_ hT.out hN3)
  replace hP := Lib.hid (Below.then_ hP.out hN3)
  replace Y_0 := (hN3.cell (World.block_lt_of_cell? _ _ Y_0)).trans Y_0
  replace Y_1 := (hN3.cell (World.block_lt_of_cell? _ _ Y_1)).trans Y_1
  have z_X1 := hN3.size; clear hN3
  obtain ⟨Al, cl, rfl, lc1, -, lc3⟩ := ru.open_
  rw [hlen.out] at ru lc1 lc3 ⊢
  obtain ⟨bl, ol, rfl, lc⟩ := lc3 n hnL
  rw [hget.out] at lc
  have rm := Lib.hid (RdI.mid ru (k := n) (h := h) (by have := hh.out; omega) (by have := hh.out; omega))
  have hsl := fun W => run_mid (some ⟨bl, ol, none⟩) L cl n h W (by have := hh.out; omega) (by have := hh.out; omega) lc1
  generalize (if cl = n then some (⟨bl, ol, none⟩ : Addr) else (some (⟨bl, ol, none⟩ : Addr)).map (·.add n)) = Am at rm hsl
  rw [show h - n = m by have := hh.out; omega, show ((firstL r L).drop n).take m = winT r n by rw [← hmid.out, ex.out]] at rm
  rw [show h - n = m by have := hh.out; omega] at hsl
  generalize cl - n = cm at rm hsl
  clear lc3 lc1 ru cG hmid hget hlen
  go_wp2_with fail
  refine (cTn.out X1 hP.out).mono ?_; rintro e X2 ⟨rfl, hN4⟩
  replace hT := Lib.hid (Below.then_ hT.out hN4)
  replace hP := Lib.hid (Below.then_ hP.out hN4)
  replace Y_0 := (hN4.cell (World.block_lt_of_cell? _ _ Y_0)).trans Y_0
  replace Y_1 := (hN4.cell (World.block_lt_of_cell? _ _ Y_1)).trans Y_1
  replace rm := Lib.hid (rm.out.below hN4 (Nat.le_refl _))
  replace lc := (hN4.cell (World.block_lt_of_cell? _ _ lc)).trans lc
  have z_X2 := hN4.size; clear hN4
  go_wp2_with fail
  refine (cFn.out X2 hP.out).mono ?_; rintro e X3 ⟨vs, rfl, os, hN5⟩
  replace hT := Lib.hid (Below.then_ hT.out hN5)
  replace hP := Lib.hid (Below.then_ hP.out hN5)
  replace Y_0 := (hN5.cell (World.block_lt_of_cell? _ _ Y_0)).trans Y_0
  replace Y_1 := (hN5.cell (World.block_lt_of_cell? _ _ Y_1)).trans Y_1
  replace rm := Lib.hid (rm.out.below hN5 (Nat.le_refl _))
  replace lc := (hN5.cell (World.block_lt_of_cell? _ _ lc)).trans lc
  have z_X3 := hN5.size; clear hN5
  change OwnR _ _ _ ⟨r.by_, winT r n⟩ at os
  obtain ⟨a5, b5, rfl, oa, ob⟩ := os
  obtain ⟨A5, c5, rfl⟩ := own_shape oa
  obtain ⟨B5, d5, rfl⟩ := own_shape ob
  have ra5 := Lib.hid (oa.rd (by have := ex.out; show r.by_.length ≤ _; omega))
  have rb5 := Lib.hid (ob.rd (by rw [winT_len, ex.out]; omega))
  rw [show ({ by_ := r.by_, start := winT r n } : Rule).by_.length = m from ex.out] at ra5 ⊢
  rw [show ({ by_ := r.by_, start := winT r n } : Rule).start.length = m from (winT_len r n).trans ex.out] at rb5 ⊢
  have ra6 : Hid (RdI X3 (.slice A5 m c5) r.by_) := ra5
  have rb6 : Hid (RdI X3 (.slice B5 m d5) (winT r n)) := rb5
  clear oa ob ra5 rb5
  obtain ⟨hN6, Z_0, Z_1, Z_z⟩ := box_new X3 (.slice A5 m c5) (.slice B5 m d5) 49
  replace hT := Lib.hid (Below.then_ hT.out hN6)
  replace hP := Lib.hid (Below.then_ hP.out hN6)
  replace Y_0 := (hN6.cell (World.block_lt_of_cell? _ _ Y_0)).trans Y_0
  replace Y_1 := (hN6.cell (World.block_lt_of_cell? _ _ Y_1)).trans Y_1
  replace rm := Lib.hid (rm.out.below hN6 (Nat.le_refl _))
  replace lc := (hN6.cell (World.block_lt_of_cell? _ _ lc)).trans lc
  replace ra6 := Lib.hid (ra6.out.below hN6 (Nat.le_refl _))
  replace rb6 := Lib.hid (rb6.out.below hN6 (Nat.le_refl _))
  go_wp2_with fail
  generalize X3.alloc (.cells #[.slice A5 m c5, .slice B5 m d5] 49) = Z at *
  clear hN6
  have HS : Z.cell? ⟨bl, ol + n, none⟩ = some (.int .i64 (termK r n)) ∧ Z.cell? ⟨V2.heap.size, 0, none⟩ = some (.slice A m ca) ∧ Z.cell? ⟨X3.heap.size, 0, none⟩ = some (.slice A5 m c5) ∧ Z.cell? ⟨X3.heap.size, 1, none⟩ = some (.slice B5 m d5) := ⟨lc, Y_0, Z_0, Z_1⟩
  have xb := termK_bd (r := r) oky.out.2 n
  generalize hx : termK r n = x at *
  replace hx := Lib.hid hx
  refine D_begin (fun w' => w'.cell? ⟨bl, ol + n, none⟩ = some (.int .i64 x) ∧ w'.cell? ⟨V2.heap.size, 0, none⟩ = some (.slice A m ca) ∧ w'.cell? ⟨X3.heap.size, 0, none⟩ = some (.slice A5 m c5) ∧ w'.cell? ⟨X3.heap.size, 1, none⟩ = some (.slice B5 m d5)) (fun _ => True) 99 (by kernel_rfl) ?_
  change wpAnyD _ _ _ _ _ _ _ _ _ _ Z.drew
  simp only [List.size_toArray, List.length_cons, List.length_nil, Nat.reduceAdd, Array.replicate_succ, Array.replicate_zero, List.push_toArray, List.append_toArray, List.nil_append, List.cons_append]
  refine D_take (i := 0) (v := ?_) rfl (by kernel_rfl) (by kernel_rfl) (by kernel_rfl) (by kernel_rfl) (fun _ _ _ h => h) (Or.inl ⟨by rfl, ?_⟩) HS (fun _ => trivial) ?_
  rotate_left; · intro w1 hw1; obtain ⟨hw1, hw2, hw3, hw4⟩ := hw1; go_simp; try with_reducible rfl
  try simp only [Act.put, List.getElem_toArray, List.getElem_cons_zero, List.getElem_cons_succ, List.setIfInBounds_toArray, List.set_cons_zero, List.set_cons_succ]
  refine D_take (i := 1) (v := ?_) rfl (by kernel_rfl) (by kernel_rfl) (by kernel_rfl) (by kernel_rfl) (fun _ _ _ h => h) (Or.inl ⟨by rfl, ?_⟩) HS (fun _ => trivial) ?_
  rotate_left; · intro w1 hw1; obtain ⟨hw1, hw2, hw3, hw4⟩ := hw1; go_simp; try with_reducible rfl
  try simp only [Act.put, List.getElem_toArray, List.getElem_cons_zero, List.getElem_cons_succ, List.setIfInBounds_toArray, List.set_cons_zero, List.set_cons_succ]
  refine D_take (i := 2) (v := ?_) rfl (by kernel_rfl) (by kernel_rfl) (by kernel_rfl) (by kernel_rfl) (fun _ _ _ h => h) (Or.inl ⟨by rfl, ?_⟩) HS (fun _ => trivial) ?_
  rotate_left; · intro w1 hw1; obtain ⟨hw1, hw2, hw3, hw4⟩ := hw1; go_simp; try with_reducible rfl
  try simp only [Act.put, List.getElem_toArray, List.getElem_cons_zero, List.getElem_cons_succ, List.setIfInBounds_toArray, List.set_cons_zero, List.set_cons_succ]
  refine D_take (i := 3) (v := ?_) rfl (by kernel_rfl) (by kernel_rfl) (by kernel_rfl) (by kernel_rfl) (fun _ _ _ h => h) (Or.inl ⟨by rfl, ?_⟩) HS (fun _ => trivial) ?_
  rotate_left; · intro w1 hw1; obtain ⟨hw1, hw2, hw3, hw4⟩ := hw1; go_simp; try with_reducible rfl
  try simp only [Act.put, List.getElem_toArray, List.getElem_cons_zero, List.getElem_cons_succ, List.setIfInBounds_toArray, List.set_cons_zero, List.set_cons_succ]
  refine D_take (i := 4) (v := ?_) rfl (by kernel_rfl) (by kernel_rfl) (by kernel_rfl) (by kernel_rfl) (fun _ _ _ h => h) (Or.inl ⟨by rfl, ?_⟩) HS (fun _ => trivial) ?_
  rotate_left; · intro w1 hw1; obtain ⟨hw1, hw2, hw3, hw4⟩ := hw1; go_simp; try with_reducible rfl
  try simp only [Act.put, List.getElem_toArray, List.getElem_cons_zero, List.getElem_cons_succ, List.setIfInBounds_toArray, List.set_cons_zero, List.set_cons_succ]
  refine D_take (i := 5) (v := ?_) rfl (by kernel_rfl) (by kernel_rfl) (by kernel_rfl) (by kernel_rfl) (fun _ _ _ h => h) (Or.inl ⟨by rfl, ?_⟩) HS (fun _ => trivial) ?_
  rotate_left; · intro w1 hw1; obtain ⟨hw1, hw2, hw3, hw4⟩ := hw1; go_simp; try with_reducible rfl
  try simp only [Act.put, List.getElem_toArray, List.getElem_cons_zero, List.getElem_cons_succ, List.setIfInBounds_toArray, List.set_cons_zero, List.set_cons_succ]
  refine D_take (i := 6) (v := ?_) rfl (by kernel_rfl) (by kernel_rfl) (by kernel_rfl) (by kernel_rfl) (fun _ _ _ h => h) (Or.inl ⟨by rfl, ?_⟩) HS (fun _ => trivial) ?_
  rotate_left; · intro w1 hw1; obtain ⟨hw1, hw2, hw3, hw4⟩ := hw1; go_simp; try with_reducible rfl
  try simp only [Act.put, List.getElem_toArray, List.getElem_cons_zero, List.getElem_cons_succ, List.setIfInBounds_toArray, List.set_cons_zero, List.set_cons_succ]
  refine D_take (i := 7) (v := ?_) rfl (by kernel_rfl) (by kernel_rfl) (by kernel_rfl) (by kernel_rfl) (fun _ _ _ h => h) (Or.inl ⟨by rfl, ?_⟩) HS (fun _ => trivial) ?_
  rotate_left; · intro w1 hw1; obtain ⟨hw1, hw2, hw3, hw4⟩ := hw1; go_simp; try with_reducible rfl
  try simp only [Act.put, List.getElem_toArray, List.getElem_cons_zero, List.getElem_cons_succ, List.setIfInBounds_toArray, List.set_cons_zero, List.set_cons_succ]
  refine D_take (i := 8) (v := ?_) rfl (by kernel_rfl) (by kernel_rfl) (by kernel_rfl) (by kernel_rfl) (fun _ _ _ h => h) (Or.inl ⟨by rfl, ?_⟩) HS (fun _ => trivial) ?_
  rotate_left; · intro w1 hw1; obtain ⟨hw1, hw2, hw3, hw4⟩ := hw1; go_simp; try with_reducible rfl
  try simp only [Act.put, List.getElem_toArray, List.getElem_cons_zero, List.getElem_cons_succ, List.setIfInBounds_toArray, List.set_cons_zero, List.set_cons_succ]
  refine D_take (i := 9) (v := ?_) rfl (by kernel_rfl) (by kernel_rfl) (by kernel_rfl) (by kernel_rfl) (fun _ _ _ h => h) (Or.inl ⟨by rfl, ?_⟩) HS (fun _ => trivial) ?_
  rotate_left; · intro w1 hw1; obtain ⟨hw1, hw2, hw3, hw4⟩ := hw1; go_simp; try with_reducible rfl
  try simp only [Act.put, List.getElem_toArray, List.getElem_cons_zero, List.getElem_cons_succ, List.setIfInBounds_toArray, List.set_cons_zero, List.set_cons_succ]
  refine D_take (i := 10) (v := ?_) rfl (by kernel_rfl) (by kernel_rfl) (by kernel_rfl) (by kernel_rfl) (fun _ _ _ h => h) (Or.inl ⟨by rfl, ?_⟩) HS (fun _ => trivial) ?_
  rotate_left; · intro w1 hw1; obtain ⟨hw1, hw2, hw3, hw4⟩ := hw1; go_simp; try with_reducible rfl
  try simp only [Act.put, List.getElem_toArray, List.getElem_cons_zero, List.getElem_cons_succ, List.setIfInBounds_toArray, List.set_cons_zero, List.set_cons_succ]
  refine D_take (i := 11) (v := ?_) rfl (by kernel_rfl) (by kernel_rfl) (by kernel_rfl) (by kernel_rfl) (fun _ _ _ h => h) (Or.inl ⟨by rfl, ?_⟩) HS (fun _ => trivial) ?_
  rotate_left; · intro w1 hw1; obtain ⟨hw1, hw2, hw3, hw4⟩ := hw1; go_simp; try with_reducible rfl
  try simp only [Act.put, List.getElem_toArray, List.getElem_cons_zero, List.getElem_cons_succ, List.setIfInBounds_toArray, List.set_cons_zero, List.set_cons_succ]
  refine D_take (i := 12) (v := ?_) rfl (by kernel_rfl) (by kernel_rfl) (by kernel_rfl) (by kernel_rfl) (fun _ _ _ h => h) (Or.inl ⟨by rfl, ?_⟩) HS (fun _ => trivial) ?_
  rotate_left; · intro w1 hw1; obtain ⟨hw1, hw2, hw3, hw4⟩ := hw1; go_simp; try with_reducible rfl
  try simp only [Act.put, List.getElem_toArray, List.getElem_cons_zero, List.getElem_cons_succ, List.setIfInBounds_toArray, List.set_cons_zero, List.set_cons_succ]
  refine D_take (i := 13) (v := ?_) rfl (by kernel_rfl) (by kernel_rfl) (by kernel_rfl) (by kernel_rfl) (fun _ _ _ h => h) (Or.inl ⟨by rfl, ?_⟩) HS (fun _ => trivial) ?_
  rotate_left; · intro w1 hw1; obtain ⟨hw1, hw2, hw3, hw4⟩ := hw1; go_simp; try with_reducible rfl
  try simp only [Act.put, List.getElem_toArray, List.getElem_cons_zero, List.getElem_cons_succ, List.setIfInBounds_toArray, List.set_cons_zero, List.set_cons_succ]
  refine D_take (i := 14) (v := ?_) rfl (by kernel_rfl) (by kernel_rfl) (by kernel_rfl) (by kernel_rfl) (fun _ _ _ h => h) (Or.inl ⟨by rfl, ?_⟩) HS (fun _ => trivial) ?_
  rotate_left; · intro w1 hw1; obtain ⟨hw1, hw2, hw3, hw4⟩ := hw1; go_simp; try with_reducible rfl
  try simp only [Act.put, List.getElem_toArray, List.getElem_cons_zero, List.getElem_cons_succ, List.setIfInBounds_toArray, List.set_cons_zero, List.set_cons_succ]
  refine D_take (i := 15) (v := ?_) rfl (by kernel_rfl) (by kernel_rfl) (by kernel_rfl) (by kernel_rfl) (fun _ _ _ h => h) (Or.inl ⟨by rfl, ?_⟩) HS (fun _ => trivial) ?_
  rotate_left; · intro w1 hw1; obtain ⟨hw1, hw2, hw3, hw4⟩ := hw1; go_simp; try with_reducible rfl
  try simp only [Act.put, List.getElem_toArray, List.getElem_cons_zero, List.getElem_cons_succ, List.setIfInBounds_toArray, List.set_cons_zero, List.set_cons_succ]
  refine D_take (i := 16) (v := ?_) rfl (by kernel_rfl) (by kernel_rfl) (by kernel_rfl) (by kernel_rfl) (fun _ _ _ h => h) (Or.inl ⟨by rfl, ?_⟩) HS (fun _ => trivial) ?_
  rotate_left; · intro w1 hw1; obtain ⟨hw1, hw2, hw3, hw4⟩ := hw1; go_simp; try with_reducible rfl
  try simp only [Act.put, List.getElem_toArray, List.getElem_cons_zero, List.getElem_cons_succ, List.setIfInBounds_toArray, List.set_cons_zero, List.set_cons_succ]
  refine D_take (i := 17) (v := ?_) rfl (by kernel_rfl) (by kernel_rfl) (by kernel_rfl) (by kernel_rfl) (fun _ _ _ h => h) (Or.inl ⟨by rfl, ?_⟩) HS (fun _ => trivial) ?_
  rotate_left; · intro w1 hw1; obtain ⟨hw1, hw2, hw3, hw4⟩ := hw1; go_simp; try with_reducible rfl
  try simp only [Act.put, List.getElem_toArray, List.getElem_cons_zero, List.getElem_cons_succ, List.setIfInBounds_toArray, List.set_cons_zero, List.set_cons_succ]
  refine D_take (i := 18) (v := ?_) rfl (by kernel_rfl) (by kernel_rfl) (by kernel_rfl) (by kernel_rfl) (fun _ _ _ h => h) (Or.inl ⟨by rfl, ?_⟩) HS (fun _ => trivial) ?_
  rotate_left; · intro w1 hw1; obtain ⟨hw1, hw2, hw3, hw4⟩ := hw1; go_simp; try with_reducible rfl
  try simp only [Act.put, List.getElem_toArray, List.getElem_cons_zero, List.getElem_cons_succ, List.setIfInBounds_toArray, List.set_cons_zero, List.set_cons_succ]
  have hd : Below Z.heap.size Z Z.drew := (Below.refl _ _).drew
  clear HS
  generalize Z.drew = Zd at hd ⊢
  replace hT := Lib.hid (Below.then_ hT.out hd)
  replace hP := Lib.hid (Below.then_ hP.out hd)
  replace Y_0 := (hd.cell (World.block_lt_of_cell? _ _ Y_0)).trans Y_0
  replace Y_1 := (hd.cell (World.block_lt_of_cell? _ _ Y_1)).trans Y_1
  replace rm := Lib.hid (rm.out.below hd (Nat.le_refl _))
  replace lc := (hd.cell (World.block_lt_of_cell? _ _ lc)).trans lc
  replace ra6 := Lib.hid (ra6.out.below hd (Nat.le_refl _))
  replace rb6 := Lib.hid (rb6.out.below hd (Nat.le_refl _))
  replace Z_0 := (hd.cell (World.block_lt_of_cell? _ _ Z_0)).trans Z_0
  replace Z_1 := (hd.cell (World.block_lt_of_cell? _ _ Z_1)).trans Z_1
  have z_Zd := hd.size; clear hd
  refine D_one (i := 19) (by kernel_rfl) rfl ?_
  intro K hK
  rw [if_pos (by rfl)]
  go_wp2_with fail
  refine (q4.out r.by_ _ _ Zd ra6.out (rR.out _ hP.out).one.1).mono ?_; rintro e U1 ⟨rfl, hN_U1⟩
  replace hT := Lib.hid (Below.then_ hT.out hN_U1)
  replace hP := Lib.hid (Below.then_ hP.out hN_U1)
  replace Y_0 := (hN_U1.cell (World.block_lt_of_cell? _ _ Y_0)).trans Y_0
  replace Y_1 := (hN_U1.cell (World.block_lt_of_cell? _ _ Y_1)).trans Y_1
  replace rm := Lib.hid (rm.out.below hN_U1 (Nat.le_refl _))
  replace lc := (hN_U1.cell (World.block_lt_of_cell? _ _ lc)).trans lc
  replace ra6 := Lib.hid (ra6.out.below hN_U1 (Nat.le_refl _))
  replace rb6 := Lib.hid (rb6.out.below hN_U1 (Nat.le_refl _))
  replace Z_0 := (hN_U1.cell (World.block_lt_of_cell? _ _ Z_0)).trans Z_0
  replace Z_1 := (hN_U1.cell (World.block_lt_of_cell? _ _ Z_1)).trans Z_1
  have z_U1 := hN_U1.size; clear hN_U1
  refine hK _ _ ⟨lc, Y_0, Z_0, Z_1⟩ (fun _ _ => trivial) ?_
  clear hK K
  try simp only [Act.put, List.getElem_toArray, List.getElem_cons_zero, List.getElem_cons_succ, List.setIfInBounds_toArray, List.set_cons_zero, List.set_cons_succ]
  refine D_take (i := 20) (v := ?_) rfl (by kernel_rfl) (by kernel_rfl) (by kernel_rfl) (by kernel_rfl) (fun _ _ _ h => h) (Or.inl ⟨by rfl, ?_⟩) ⟨lc, Y_0, Z_0, Z_1⟩ (fun _ => trivial) ?_
  rotate_left; · intro w1 hw1; obtain ⟨hw1, hw2, hw3, hw4⟩ := hw1; have eh' := eh.out; go_simp; try with_reducible rfl
  try simp only [Act.put, List.getElem_toArray, List.getElem_cons_zero, List.getElem_cons_succ, List.setIfInBounds_toArray, List.set_cons_zero, List.set_cons_succ]
  refine D_take (i := 21) (v := ?_) rfl (by kernel_rfl) (by kernel_rfl) (by kernel_rfl) (by kernel_rfl) (fun _ _ _ h => h) (Or.inl ⟨by rfl, ?_⟩) ⟨lc, Y_0, Z_0, Z_1⟩ (fun _ => trivial) ?_
  rotate_left; · intro w1 hw1; obtain ⟨hw1, hw2, hw3, hw4⟩ := hw1; have eh' := eh.out; go_simp; try with_reducible rfl
  try simp only [Act.put, List.getElem_toArray, List.getElem_cons_zero, List.getElem_cons_succ, List.setIfInBounds_toArray, List.set_cons_zero, List.set_cons_succ]
  refine D_take (i := 22) (v := ?_) rfl (by kernel_rfl) (by kernel_rfl) (by kernel_rfl) (by kernel_rfl) (fun _ _ _ h => h) (Or.inl ⟨by rfl, ?_⟩) ⟨lc, Y_0, Z_0, Z_1⟩ (fun _ => trivial) ?_
  rotate_left; · intro w1 hw1; obtain ⟨hw1, hw2, hw3, hw4⟩ := hw1; have eh' := eh.out; go_simp; try with_reducible rfl
  try simp only [Act.put, List.getElem_toArray, List.getElem_cons_zero, List.getElem_cons_succ, List.setIfInBounds_toArray, List.set_cons_zero, List.set_cons_succ]
  refine D_take (i := 23) (v := ?_) rfl (by kernel_rfl) (by kernel_rfl) (by kernel_rfl) (by kernel_rfl) (fun _ _ _ h => h) (Or.inl ⟨by rfl, ?_⟩) ⟨lc, Y_0, Z_0, Z_1⟩ (fun _ => trivial) ?_
  rotate_left; · intro w1 hw1; obtain ⟨hw1, hw2, hw3, hw4⟩ := hw1; have eh' := eh.out; go_simp; try with_reducible rfl
  try simp only [Act.put, List.getElem_toArray, List.getElem_cons_zero, List.getElem_cons_succ, List.setIfInBounds_toArray, List.set_cons_zero, List.set_cons_succ]
  refine D_take (i := 24) (v := ?_) rfl (by kernel_rfl) (by kernel_rfl) (by kernel_rfl) (by kernel_rfl) (fun _ _ _ h => h) (Or.inl ⟨by rfl, ?_⟩) ⟨lc, Y_0, Z_0, Z_1⟩ (fun _ => trivial) ?_
  rotate_left; · intro w1 hw1; obtain ⟨hw1, hw2, hw3, hw4⟩ := hw1; have eh' := eh.out; go_simp; try with_reducible rfl
  try simp only [Act.put, List.getElem_toArray, List.getElem_cons_zero, List.getElem_cons_succ, List.setIfInBounds_toArray, List.set_cons_zero, List.set_cons_succ]
  refine D_take (i := 25) (v := ?_) rfl (by kernel_rfl) (by kernel_rfl) (by kernel_rfl) (by kernel_rfl) (fun _ _ _ h => h) (Or.inl ⟨by rfl, ?_⟩) ⟨lc, Y_0, Z_0, Z_1⟩ (fun _ => trivial) ?_
  rotate_left; · intro w1 hw1; obtain ⟨hw1, hw2, hw3, hw4⟩ := hw1; have eh' := eh.out; go_simp; try with_reducible rfl
  try simp only [Act.put, List.getElem_toArray, List.getElem_cons_zero, List.getElem_cons_succ, List.setIfInBounds_toArray, List.set_cons_zero, List.set_cons_succ]
  refine D_take (i := 26) (v := ?_) rfl (by kernel_rfl) (by kernel_rfl) (by kernel_rfl) (by kernel_rfl) (fun _ _ _ h => h) (Or.inl ⟨by rfl, ?_⟩) ⟨lc, Y_0, Z_0, Z_1⟩ (fun _ => trivial) ?_
  rotate_left; · intro w1 hw1; obtain ⟨hw1, hw2, hw3, hw4⟩ := hw1; have eh' := eh.out; go_simp; try with_reducible rfl
  try simp only [Act.put, List.getElem_toArray, List.getElem_cons_zero, List.getElem_cons_succ, List.setIfInBounds_toArray, List.set_cons_zero, List.set_cons_succ]
  refine D_take (i := 27) (v := ?_) rfl (by kernel_rfl) (by kernel_rfl) (by kernel_rfl) (by kernel_rfl) (fun _ _ _ h => h) (Or.inl ⟨by rfl, ?_⟩) ⟨lc, Y_0, Z_0, Z_1⟩ (fun _ => trivial) ?_
  rotate_left; · intro w1 hw1; obtain ⟨hw1, hw2, hw3, hw4⟩ := hw1; have eh' := eh.out; go_simp; try with_reducible rfl
  try simp only [Act.put, List.getElem_toArray, List.getElem_cons_zero, List.getElem_cons_succ, List.setIfInBounds_toArray, List.set_cons_zero, List.set_cons_succ]
  refine D_take (i := 28) (v := ?_) rfl (by kernel_rfl) (by kernel_rfl) (by kernel_rfl) (by kernel_rfl) (fun _ _ _ h => h) (Or.inl ⟨by rfl, ?_⟩) ⟨lc, Y_0, Z_0, Z_1⟩ (fun _ => trivial) ?_
  rotate_left; · intro w1 hw1; obtain ⟨hw1, hw2, hw3, hw4⟩ := hw1; have eh' := eh.out; go_simp; try with_reducible rfl
  try simp only [Act.put, List.getElem_toArray, List.getElem_cons_zero, List.getElem_cons_succ, List.setIfInBounds_toArray, List.set_cons_zero, List.set_cons_succ]
  refine D_take (i := 29) (v := ?_) rfl (by kernel_rfl) (by kernel_rfl) (by kernel_rfl) (by kernel_rfl) (fun _ _ _ h => h) (Or.inl ⟨by rfl, ?_⟩) ⟨lc, Y_0, Z_0, Z_1⟩ (fun _ => trivial) ?_
  rotate_left; · intro w1 hw1; obtain ⟨hw1, hw2, hw3, hw4⟩ := hw1; have eh' := eh.out; go_simp; try with_reducible rfl
  try simp only [Act.put, List.getElem_toArray, List.getElem_cons_zero, List.getElem_cons_succ, List.setIfInBounds_toArray, List.set_cons_zero, List.set_cons_succ]
  refine D_take (i := 30) (v := ?_) rfl (by kernel_rfl) (by kernel_rfl) (by kernel_rfl) (by kernel_rfl) (fun _ _ _ h => h) (Or.inl ⟨by rfl, ?_⟩) ⟨lc, Y_0, Z_0, Z_1⟩ (fun _ => trivial) ?_
  rotate_left; · intro w1 hw1; obtain ⟨hw1, hw2, hw3, hw4⟩ := hw1; have eh' := eh.out; go_simp; try with_reducible rfl
  try simp only [Act.put, List.getElem_toArray, List.getElem_cons_zero, List.getElem_cons_succ, List.setIfInBounds_toArray, List.set_cons_zero, List.set_cons_succ]
  refine D_one (i := 31) (by kernel_rfl) rfl ?_
  intro K hK
  rw [if_pos (by rfl)]
  go_wp2_with fail
  refine (q4.out (winT r n) _ _ U1 rb6.out rm.out).mono ?_; rintro e U2 ⟨rfl, hN_U2⟩
  replace hT := Lib.hid (Below.then_ hT.out hN_U2)
  replace hP := Lib.hid (Below.then_ hP.out hN_U2)
  replace Y_0 := (hN_U2.cell (World.block_lt_of_cell? _ _ Y_0)).trans Y_0
  replace Y_1 := (hN_U2.cell (World.block_lt_of_cell? _ _ Y_1)).trans Y_1
  replace rm := Lib.hid (rm.out.below hN_U2 (Nat.le_refl _))
  replace lc := (hN_U2.cell (World.block_lt_of_cell? _ _ lc)).trans lc
  replace ra6 := Lib.hid (ra6.out.below hN_U2 (Nat.le_refl _))
  replace rb6 := Lib.hid (rb6.out.below hN_U2 (Nat.le_refl _))
  replace Z_0 := (hN_U2.cell (World.block_lt_of_cell? _ _ Z_0)).trans Z_0
  replace Z_1 := (hN_U2.cell (World.block_lt_of_cell? _ _ Z_1)).trans Z_1
  have z_U2 := hN_U2.size; clear hN_U2
  refine hK _ _ ⟨lc, Y_0, Z_0, Z_1⟩ (fun _ _ => trivial) ?_
  clear hK K
  try simp only [Act.put, List.getElem_toArray, List.getElem_cons_zero, List.getElem_cons_succ, List.setIfInBounds_toArray, List.set_cons_zero, List.set_cons_succ]
  refine D_take (i := 32) (v := ?_) rfl (by kernel_rfl) (by kernel_rfl) (by kernel_rfl) (by kernel_rfl) (fun _ _ _ h => h) (Or.inl ⟨by rfl, ?_⟩) ⟨lc, Y_0, Z_0, Z_1⟩ (fun _ => trivial) ?_
  rotate_left; · intro w1 hw1; obtain ⟨hw1, hw2, hw3, hw4⟩ := hw1; go_simp; try with_reducible rfl
  try simp only [Act.put, List.getElem_toArray, List.getElem_cons_zero, List.getElem_cons_succ, List.setIfInBounds_toArray, List.set_cons_zero, List.set_cons_succ]
  refine D_take (i := 33) (v := ?_) rfl (by kernel_rfl) (by kernel_rfl) (by kernel_rfl) (by kernel_rfl) (fun _ _ _ h => h) (Or.inl ⟨by rfl, ?_⟩) ⟨lc, Y_0, Z_0, Z_1⟩ (fun _ => trivial) ?_
  rotate_left; · intro w1 hw1; obtain ⟨hw1, hw2, hw3, hw4⟩ := hw1; go_simp; try with_reducible rfl
  try simp only [Act.put, List.getElem_toArray, List.getElem_cons_zero, List.getElem_cons_succ, List.setIfInBounds_toArray, List.set_cons_zero, List.set_cons_succ]
  refine D_done (by kernel_rfl) ?_ _
  clear ra6 rb6 rm
  clear eh hsl cTn cFn
  obtain ⟨F, hF⟩ : ∃ F, F = fr / 2 := ⟨_, rfl⟩
  have hF2 : Hid (F ≤ 9223372036854775807) := Lib.hid (by rw [hF]; exact Nat.le_of_lt_succ (Nat.div_lt_of_lt_mul (by have := hfr.out; omega)))
  have eF : wrap64 ((fr : Int) / 2) = (F : Int) := by rw [show (fr : Int) / 2 = (F : Int) by omega]; exact IntWalk.wrap64_in _ ⟨by omega, by have := hF2.out; omega⟩
  replace hF := Lib.hid hF
  have cTF := Lib.hid (cT.out F hF2.out)
  rw [tR.out F (by have := hF2.out; omega)] at cTF
  have cFF := Lib.hid (cF.out F hF2.out)
  have yb := termK_bd (r := r) oky.out.2 F
  go_wp2_with fail
  go_wp2_with fail
  refine (cTF.out U2 hP.out).mono ?_; rintro e X4 ⟨rfl, hN7⟩
  replace hT := Lib.hid (Below.then_ hT.out hN7)
  replace hP := Lib.hid (Below.then_ hP.out hN7)
  replace Y_0 := (hN7.cell (World.block_lt_of_cell? _ _ Y_0)).trans Y_0
  replace Y_1 := (hN7.cell (World.block_lt_of_cell? _ _ Y_1)).trans Y_1
  replace lc := (hN7.cell (World.block_lt_of_cell? _ _ lc)).trans lc
  replace Z_0 := (hN7.cell (World.block_lt_of_cell? _ _ Z_0)).trans Z_0
  replace Z_1 := (hN7.cell (World.block_lt_of_cell? _ _ Z_1)).trans Z_1
  have z_X4 := hN7.size; clear hN7
  go_wp2_with fail
  refine (cFF.out X4 hP.out).mono ?_; rintro e X5 ⟨vs, rfl, os, hN8⟩
  replace hT := Lib.hid (Below.then_ hT.out hN8)
  replace hP := Lib.hid (Below.then_ hP.out hN8)
  replace Y_0 := (hN8.cell (World.block_lt_of_cell? _ _ Y_0)).trans Y_0
  replace Y_1 := (hN8.cell (World.block_lt_of_cell? _ _ Y_1)).trans Y_1
  replace lc := (hN8.cell (World.block_lt_of_cell? _ _ lc)).trans lc
  replace Z_0 := (hN8.cell (World.block_lt_of_cell? _ _ Z_0)).trans Z_0
  replace Z_1 := (hN8.cell (World.block_lt_of_cell? _ _ Z_1)).trans Z_1
  have z_X5 := hN8.size; clear hN8
  change OwnR _ _ _ ⟨r.by_, winT r F⟩ at os
  obtain ⟨a7, b7, rfl, oa, ob⟩ := os
  obtain ⟨A7, c7, rfl⟩ := own_shape oa
  obtain ⟨B7, d7, rfl⟩ := own_shape ob
  have ra7 := Lib.hid (oa.rd (by have := ex.out; show r.by_.length ≤ _; omega))
  have rb7 := Lib.hid (ob.rd (by rw [winT_len, ex.out]; omega))
  rw [show ({ by_ := r.by_, start := winT r F } : Rule).by_.length = m from ex.out] at ra7 ⊢
  rw [show ({ by_ := r.by_, start := winT r F } : Rule).start.length = m from (winT_len r F).trans ex.out] at rb7 ⊢
  have ra8 : Hid (RdI X5 (.slice A7 m c7) r.by_) := ra7
  have rb8 : Hid (RdI X5 (.slice B7 m d7) (winT r F)) := rb7
  clear oa ob ra7 rb7 cTF cFF
  obtain ⟨hN9, Q_0, Q_1, Q_z⟩ := box_new X5 (.slice A7 m c7) (.slice B7 m d7) 49
  replace hT := Lib.hid (Below.then_ hT.out hN9)
  replace hP := Lib.hid (Below.then_ hP.out hN9)
  replace Y_0 := (hN9.cell (World.block_lt_of_cell? _ _ Y_0)).trans Y_0
  replace Y_1 := (hN9.cell (World.block_lt_of_cell? _ _ Y_1)).trans Y_1
  replace lc := (hN9.cell (World.block_lt_of_cell? _ _ lc)).trans lc
  replace Z_0 := (hN9.cell (World.block_lt_of_cell? _ _ Z_0)).trans Z_0
  replace Z_1 := (hN9.cell (World.block_lt_of_cell? _ _ Z_1)).trans Z_1
  replace ra8 := Lib.hid (ra8.out.below hN9 (Nat.le_refl _))
  replace rb8 := Lib.hid (rb8.out.below hN9 (Nat.le_refl _))
  go_wp2_with fail
  generalize X5.alloc (.cells #[.slice A7 m c7, .slice B7 m d7] 49) = Q at *
  clear hN9
  by_cases h0 : m = 0
  · have eM : matR r = (6, []) := by rw [matR, if_neg (by simpa using hok.out), if_pos (by rw [ex.out, h0])]
    have hy0 : termK r F = 0 := termK_zero r (by rw [ex.out, h0]) (by rw [ey.out, h0]) F
    have cM := Lib.hid (fun W (hW : Below V2.heap.size V2 W) => eM ▸ Matrix_any r _ W (rR.out W hW))
    have hm0 : ((m : Int) == 0) = true := by rw [beq_iff_eq]; omega
    replace h0 := Lib.hid h0
    rw [hy0]
    clear eM hy0
    refine (cM.out Q hP.out).mono ?_; rintro e X6 ⟨vm, rfl, om, hN10⟩
    replace hT := Lib.hid (Below.then_ hT.out hN10)
    replace hP := Lib.hid (Below.then_ hP.out hN10)
    replace Y_0 := (hN10.cell (World.block_lt_of_cell? _ _ Y_0)).trans Y_0
    replace Y_1 := (hN10.cell (World.block_lt_of_cell? _ _ Y_1)).trans Y_1
    replace lc := (hN10.cell (World.block_lt_of_cell? _ _ lc)).trans lc
    replace Z_0 := (hN10.cell (World.block_lt_of_cell? _ _ Z_0)).trans Z_0
    replace Z_1 := (hN10.cell (World.block_lt_of_cell? _ _ Z_1)).trans Z_1
    replace ra8 := Lib.hid (ra8.out.below hN10 (Nat.le_refl _))
    replace rb8 := Lib.hid (rb8.out.below hN10 (Nat.le_refl _))
    replace Q_0 := (hN10.cell (World.block_lt_of_cell? _ _ Q_0)).trans Q_0
    replace Q_1 := (hN10.cell (World.block_lt_of_cell? _ _ Q_1)).trans Q_1
    have z_X6 := hN10.size; clear hN10
    clear om
    go_wp2_with fail
    refine (hA.out X6 hT.out).mono ?_; rintro e V11 ⟨rfl, hN11⟩
    replace hT := Lib.hid (Below.then_ hT.out hN11)
    replace hP := Lib.hid (Below.then_ hP.out hN11)
    replace Y_0 := (hN11.cell (World.block_lt_of_cell? _ _ Y_0)).trans Y_0
    replace Y_1 := (hN11.cell (World.block_lt_of_cell? _ _ Y_1)).trans Y_1
    replace lc := (hN11.cell (World.block_lt_of_cell? _ _ lc)).trans lc
    replace Z_0 := (hN11.cell (World.block_lt_of_cell? _ _ Z_0)).trans Z_0
    replace Z_1 := (hN11.cell (World.block_lt_of_cell? _ _ Z_1)).trans Z_1
    replace ra8 := Lib.hid (ra8.out.below hN11 (Nat.le_refl _))
    replace rb8 := Lib.hid (rb8.out.below hN11 (Nat.le_refl _))
    replace Q_0 := (hN11.cell (World.block_lt_of_cell? _ _ Q_0)).trans Q_0
    replace Q_1 := (hN11.cell (World.block_lt_of_cell? _ _ Q_1)).trans Q_1
    clear hN11
    go_wp2
    go_ret
    exact ⟨rfl, hT.out⟩
  · clear lc Z_0 Z_1
    have hm1 : 0 < m := by omega
    have hm0 : ((m : Int) == 0) = false := by rw [beq_eq_false_iff_ne]; omega
    have eM : matR r = (0, compM r.by_) := by rw [matR, if_neg (by simpa using hok.out), if_neg (by rw [ex.out]; exact h0)]
    have cM := Lib.hid (fun W (hW : Below V2.heap.size V2 W) => eM ▸ Matrix_any r _ W (rR.out W hW))
    clear h0 eM
    have okC := Lib.hid (okM_comp okx.out.2)
    rw [ex.out] at okC
    have okP := Lib.hid (okM_powL okC.out hm1 F)
    have cP := Lib.hid (fun v W (hv : RdM W v (compM r.by_)) => (powR_at okC.out hm1 (show m ≤ 12 by omega) (show F < 18446744073709551616 by have := hF2.out; omega)) ▸ Power_any (compM r.by_) (F : Int) v W hv (by have := hF2.out; omega))
    have rd := Lib.hid (fun (X : List (List Int)) (hX : okM X m m) W base v (h : OwnM W base v X) => h.rdOk hX (show m ≤ 1000 by omega) (show m ≤ 1000 by omega))
    have s1 := Lib.hid (fun (X : List (List Int)) (hX : okM X m m) v W (hv : RdM W v X) => shaped_any X m m v W hv hX)
    refine (cM.out Q hP.out).mono ?_; rintro e X6 ⟨vm, rfl, om, hN1⟩
    replace hT := Lib.hid (Below.then_ hT.out hN1)
    replace hP := Lib.hid (Below.then_ hP.out hN1)
    replace Y_0 := (hN1.cell (World.block_lt_of_cell? _ _ Y_0)).trans Y_0
    replace Y_1 := (hN1.cell (World.block_lt_of_cell? _ _ Y_1)).trans Y_1
    replace ra8 := Lib.hid (ra8.out.below hN1 (Nat.le_refl _))
    replace rb8 := Lib.hid (rb8.out.below hN1 (Nat.le_refl _))
    replace Q_0 := (hN1.cell (World.block_lt_of_cell? _ _ Q_0)).trans Q_0
    replace Q_1 := (hN1.cell (World.block_lt_of_cell? _ _ Q_1)).trans Q_1
    have z_X6 := hN1.size; clear hN1
    change OwnM _ _ _ (compM r.by_) at om
    have rm := Lib.hid (rd.out _ okC.out _ _ _ om)
    clear om cM
    go_wp2_with fail
    refine (cP.out _ X6 rm.out).mono ?_; rintro e X7 ⟨vp, rfl, op, hN2⟩
    replace hT := Lib.hid (Below.then_ hT.out hN2)
    replace hP := Lib.hid (Below.then_ hP.out hN2)
    replace Y_0 := (hN2.cell (World.block_lt_of_cell? _ _ Y_0)).trans Y_0
    replace Y_1 := (hN2.cell (World.block_lt_of_cell? _ _ Y_1)).trans Y_1
    replace ra8 := Lib.hid (ra8.out.below hN2 (Nat.le_refl _))
    replace rb8 := Lib.hid (rb8.out.below hN2 (Nat.le_refl _))
    replace Q_0 := (hN2.cell (World.block_lt_of_cell? _ _ Q_0)).trans Q_0
    replace Q_1 := (hN2.cell (World.block_lt_of_cell? _ _ Q_1)).trans Q_1
    replace rm := Lib.hid (rm.out.below hN2 (Nat.le_refl _))
    have z_X7 := hN2.size; clear hN2
    change OwnM _ _ _ (powL (compM r.by_) m F) at op
    have rp := Lib.hid (rd.out _ okP.out _ _ _ op)
    clear op cP
    have cC := Lib.hid (fun W (hW : Below V2.heap.size V2 W) => Clone_any r.start _ W (rR.out W hW).one.2 (by rw [ey.out]; omega))
    go_wp2_with fail
    refine (cC.out _ hP.out).mono ?_; rintro e C1 ⟨⟨v9, rfl, o9⟩, hB1⟩
    obtain ⟨g9, c9, rfl, hg9, -⟩ := World.ownsRow.form o9 (by rw [ey.out]; exact hm1)
    rw [ey.out] at o9 ⊢
    replace o9 := Lib.hid o9
    clear cC
    go_wp2_with fail
    refine (Reverse_any r.start m _ g9 c9 C1 o9.out (by omega)).mono ?_; rintro e C2 ⟨rfl, o9r, hK⟩
    have hB2 := hB1.trans (hK.below hB1.size (fun u hu j hj => by rw [List.mem_singleton.1 hu] at hj; simp [Value.ownBlock] at hj; omega))
    have r9 := Lib.hid (o9r.rd (by rw [List.length_reverse, ey.out]; omega))
    clear o9 o9r hK hB1 hg9
    replace hT := Lib.hid (Below.then_ hT.out hB2)
    replace hP := Lib.hid (Below.then_ hP.out hB2)
    replace Y_0 := (hB2.cell (World.block_lt_of_cell? _ _ Y_0)).trans Y_0
    replace Y_1 := (hB2.cell (World.block_lt_of_cell? _ _ Y_1)).trans Y_1
    replace ra8 := Lib.hid (ra8.out.below hB2 (Nat.le_refl _))
    replace rb8 := Lib.hid (rb8.out.below hB2 (Nat.le_refl _))
    replace Q_0 := (hB2.cell (World.block_lt_of_cell? _ _ Q_0)).trans Q_0
    replace Q_1 := (hB2.cell (World.block_lt_of_cell? _ _ Q_1)).trans Q_1
    replace rm := Lib.hid (rm.out.below hB2 (Nat.le_refl _))
    replace rp := Lib.hid (rp.out.below hB2 (Nat.le_refl _))
    have z_C2 := hB2.size; clear hB2
    go_wp2_with fail
    refine (s1.out _ okC.out _ C2 rm.out).mono ?_; rintro e X8 ⟨rfl, hN3⟩
    replace hT := Lib.hid (Below.then_ hT.out hN3)
    replace hP := Lib.hid (Below.then_ hP.out hN3)
    replace Y_0 := (hN3.cell (World.block_lt_of_cell? _ _ Y_0)).trans Y_0
    replace Y_1 := (hN3.cell (World.block_lt_of_cell? _ _ Y_1)).trans Y_1
    replace ra8 := Lib.hid (ra8.out.below hN3 (Nat.le_refl _))
    replace rb8 := Lib.hid (rb8.out.below hN3 (Nat.le_refl _))
    replace Q_0 := (hN3.cell (World.block_lt_of_cell? _ _ Q_0)).trans Q_0
    replace Q_1 := (hN3.cell (World.block_lt_of_cell? _ _ Q_1)).trans Q_1
    replace rm := Lib.hid (rm.out.below hN3 (Nat.le_refl _))
    replace rp := Lib.hid (rp.out.below hN3 (Nat.le_refl _))
    replace r9 := Lib.hid (r9.out.below hN3 (Nat.le_refl _))
    have z_X8 := hN3.size; clear hN3
    go_wp2_with fail
    refine (s1.out _ okP.out _ X8 rp.out).mono ?_; rintro e X9 ⟨rfl, hN4⟩
    replace hT := Lib.hid (Below.then_ hT.out hN4)
    replace hP := Lib.hid (Below.then_ hP.out hN4)
    replace Y_0 := (hN4.cell (World.block_lt_of_cell? _ _ Y_0)).trans Y_0
    replace Y_1 := (hN4.cell (World.block_lt_of_cell? _ _ Y_1)).trans Y_1
    replace ra8 := Lib.hid (ra8.out.below hN4 (Nat.le_refl _))
    replace rb8 := Lib.hid (rb8.out.below hN4 (Nat.le_refl _))
    replace Q_0 := (hN4.cell (World.block_lt_of_cell? _ _ Q_0)).trans Q_0
    replace Q_1 := (hN4.cell (World.block_lt_of_cell? _ _ Q_1)).trans Q_1
    replace rm := Lib.hid (rm.out.below hN4 (Nat.le_refl _))
    replace rp := Lib.hid (rp.out.below hN4 (Nat.le_refl _))
    replace r9 := Lib.hid (r9.out.below hN4 (Nat.le_refl _))
    have z_X9 := hN4.size; clear hN4
    have cE := Lib.hid (fun v u W (h1 : RdM W v (powL (compM r.by_) m F)) (h2 : RdI W u r.start.reverse) => pprod_any (powL (compM r.by_) m F) r.start.reverse m m v u W okP.out ⟨by rw [List.length_reverse, ey.out], fun x hx => oky.out.2 x (List.mem_reverse.1 hx)⟩ (by omega) (by omega) h1 h2)
    have hen := Lib.hid (ends_win (r := r) (by rw [ey.out, ex.out]) okx.out.2 oky.out.2 (by rw [ex.out]; exact hm1) F)
    rw [ex.out] at hen
    clear s1
    go_wp2_with fail
    refine (cE.out _ _ _ rp.out r9.out).mono ?_; rintro e D1 ⟨⟨v6, rfl, o6⟩, hB1⟩
    have hpl := pvL_len (powL (compM r.by_) m F) r.start.reverse m m
    obtain ⟨g6, c6, rfl, hg6, -⟩ := World.ownsRow.form o6 (by rw [hpl]; exact hm1)
    rw [hpl] at o6 ⊢
    replace o6 := Lib.hid o6
    replace hpl := Lib.hid hpl
    clear cE
    go_wp2_with fail
    refine (Reverse_any _ m _ g6 c6 D1 o6.out (by omega)).mono ?_; rintro e D2 ⟨rfl, o6r, hK⟩
    have hB2 := hB1.trans (hK.below hB1.size (fun u hu j hj => by rw [List.mem_singleton.1 hu] at hj; simp [Value.ownBlock] at hj; omega))
    have r6 := Lib.hid (o6r.rd (by rw [List.length_reverse, hpl.out]; omega))
    rw [hen.out] at r6
    clear o6 o6r hK hB1 hg6 hen hpl
    replace hT := Lib.hid (Below.then_ hT.out hB2)
    replace hP := Lib.hid (Below.then_ hP.out hB2)
    replace Y_0 := (hB2.cell (World.block_lt_of_cell? _ _ Y_0)).trans Y_0
    replace Y_1 := (hB2.cell (World.block_lt_of_cell? _ _ Y_1)).trans Y_1
    replace ra8 := Lib.hid (ra8.out.below hB2 (Nat.le_refl _))
    replace rb8 := Lib.hid (rb8.out.below hB2 (Nat.le_refl _))
    replace Q_0 := (hB2.cell (World.block_lt_of_cell? _ _ Q_0)).trans Q_0
    replace Q_1 := (hB2.cell (World.block_lt_of_cell? _ _ Q_1)).trans Q_1
    replace rm := Lib.hid (rm.out.below hB2 (Nat.le_refl _))
    replace rp := Lib.hid (rp.out.below hB2 (Nat.le_refl _))
    replace r9 := Lib.hid (r9.out.below hB2 (Nat.le_refl _))
    have z_D2 := hB2.size; clear hB2
    clear r9 rp rm
    obtain ⟨t, ht⟩ : ∃ t : Rule, t = ⟨r.by_, winT r F⟩ := ⟨_, rfl⟩
    have htk : Hid (termK t n = termK r (F + n)) := Lib.hid (by rw [ht]; exact termK_from (by rw [ey.out, ex.out]) oky.out.2 F n)
    have hok2 : Hid (rightR t = 0) := Lib.hid (by rw [ht]; exact rightR_of okx.out (ex.out ▸ okL_win oky.out.2 F) (by omega))
    have cK := Lib.hid (fun v W (hv : RdR W v t) => Term_any t (n : Int) v W (by omega) hv)
    rw [termR_of hok2.out (show n < 18446744073709551616 by omega), htk.out] at cK
    have rt : Hid (∀ W, RdI W (.slice A7 m c7) r.by_ → RdI W (.slice B7 m d7) (winT r F) → RdR W (.agg #[.slice A7 m c7, .slice B7 m d7]) t) := Lib.hid (fun W h1 h2 => ⟨_, _, rfl, by rw [ht]; exact h1, by rw [ht]; exact h2⟩)
    replace ht := Lib.hid ht
    go_wp2_with fail
    refine (cK.out _ D2 (rt.out _ ra8.out rb8.out)).mono ?_; rintro e E1 ⟨rfl, hN5⟩
    replace hT := Lib.hid (Below.then_ hT.out hN5)
    replace hP := Lib.hid (Below.then_ hP.out hN5)
    replace Y_0 := (hN5.cell (World.block_lt_of_cell? _ _ Y_0)).trans Y_0
    replace Y_1 := (hN5.cell (World.block_lt_of_cell? _ _ Y_1)).trans Y_1
    replace ra8 := Lib.hid (ra8.out.below hN5 (Nat.le_refl _))
    replace rb8 := Lib.hid (rb8.out.below hN5 (Nat.le_refl _))
    replace Q_0 := (hN5.cell (World.block_lt_of_cell? _ _ Q_0)).trans Q_0
    replace Q_1 := (hN5.cell (World.block_lt_of_cell? _ _ Q_1)).trans Q_1
    replace r6 := Lib.hid (r6.out.below hN5 (Nat.le_refl _))
    have z_E1 := hN5.size; clear hN5
    clear cK
    obtain ⟨A6, c66, e6, -, -, hc6⟩ := r6.out.open_
    rw [winT_len, ex.out] at e6 hc6
    simp only [Value.slice.injEq, true_and] at e6
    obtain ⟨rfl, -⟩ := e6
    obtain ⟨b66, o66, e7, hc60⟩ := hc6 0 hm1
    simp only [Option.some.injEq, Addr.mk.injEq, and_true] at e7
    obtain ⟨rfl, rfl⟩ := e7
    rw [winT_get r F (by rw [ex.out]; exact hm1)] at hc60
    simp only [Nat.add_zero] at hc60
    clear hc6
    obtain ⟨y, hy⟩ : ∃ y, y = termK r F := ⟨_, rfl⟩
    rw [← hy] at yb hc60 ⊢
    replace hy := Lib.hid hy
    by_cases hbig : F + n ≤ 9223372036854775807
    · have kb : ¬ (9223372036854775807 - (n : Int) < (F : Int)) := by omega
      have eS : (F : Int) + (n : Int) = ((F + n : Nat) : Int) := by omega
      have cS := Lib.hid (cT.out (F + n) hbig)
      rw [tR.out (F + n) (Nat.lt_of_le_of_lt hbig (by decide))] at cS
      generalize F + n = T at *
      replace hbig := Lib.hid hbig
      go_wp2_with fail
      refine (cS.out E1 hP.out).mono ?_; rintro e E2 ⟨rfl, hN6⟩
      replace hT := Lib.hid (Below.then_ hT.out hN6)
      replace hP := Lib.hid (Below.then_ hP.out hN6)
      replace Y_0 := (hN6.cell (World.block_lt_of_cell? _ _ Y_0)).trans Y_0
      replace Y_1 := (hN6.cell (World.block_lt_of_cell? _ _ Y_1)).trans Y_1
      replace ra8 := Lib.hid (ra8.out.below hN6 (Nat.le_refl _))
      replace rb8 := Lib.hid (rb8.out.below hN6 (Nat.le_refl _))
      replace Q_0 := (hN6.cell (World.block_lt_of_cell? _ _ Q_0)).trans Q_0
      replace Q_1 := (hN6.cell (World.block_lt_of_cell? _ _ Q_1)).trans Q_1
      replace r6 := Lib.hid (r6.out.below hN6 (Nat.le_refl _))
      replace hc60 := (hN6.cell (World.block_lt_of_cell? _ _ hc60)).trans hc60
      have z_E2 := hN6.size; clear hN6
      go_wp2_with fail
      refine (q4.out (winT r F) _ _ E2 r6.out rb8.out).mono ?_; rintro e E3 ⟨rfl, hN7⟩
      replace hT := Lib.hid (Below.then_ hT.out hN7)
      replace hP := Lib.hid (Below.then_ hP.out hN7)
      replace Y_0 := (hN7.cell (World.block_lt_of_cell? _ _ Y_0)).trans Y_0
      replace Y_1 := (hN7.cell (World.block_lt_of_cell? _ _ Y_1)).trans Y_1
      replace ra8 := Lib.hid (ra8.out.below hN7 (Nat.le_refl _))
      replace rb8 := Lib.hid (rb8.out.below hN7 (Nat.le_refl _))
      replace Q_0 := (hN7.cell (World.block_lt_of_cell? _ _ Q_0)).trans Q_0
      replace Q_1 := (hN7.cell (World.block_lt_of_cell? _ _ Q_1)).trans Q_1
      replace r6 := Lib.hid (r6.out.below hN7 (Nat.le_refl _))
      replace hc60 := (hN7.cell (World.block_lt_of_cell? _ _ hc60)).trans hc60
      have z_E3 := hN7.size; clear hN7
      go_wp2_with fail
      refine (hA.out E3 hT.out).mono ?_; rintro e V8 ⟨rfl, hN8⟩
      replace hT := Lib.hid (Below.then_ hT.out hN8)
      replace hP := Lib.hid (Below.then_ hP.out hN8)
      replace Y_0 := (hN8.cell (World.block_lt_of_cell? _ _ Y_0)).trans Y_0
      replace Y_1 := (hN8.cell (World.block_lt_of_cell? _ _ Y_1)).trans Y_1
      replace ra8 := Lib.hid (ra8.out.below hN8 (Nat.le_refl _))
      replace rb8 := Lib.hid (rb8.out.below hN8 (Nat.le_refl _))
      replace Q_0 := (hN8.cell (World.block_lt_of_cell? _ _ Q_0)).trans Q_0
      replace Q_1 := (hN8.cell (World.block_lt_of_cell? _ _ Q_1)).trans Q_1
      replace r6 := Lib.hid (r6.out.below hN8 (Nat.le_refl _))
      replace hc60 := (hN8.cell (World.block_lt_of_cell? _ _ hc60)).trans hc60
      clear hN8
      go_wp2
      go_ret
      exact ⟨rfl, hT.out⟩
    · have kb : 9223372036854775807 - (n : Int) < (F : Int) := by omega
      replace hbig := Lib.hid hbig
      go_wp2_with fail
      refine (q4.out (winT r F) _ _ E1 r6.out rb8.out).mono ?_; rintro e E2 ⟨rfl, hN1⟩
      replace hT := Lib.hid (Below.then_ hT.out hN1)
      replace hP := Lib.hid (Below.then_ hP.out hN1)
      replace Y_0 := (hN1.cell (World.block_lt_of_cell? _ _ Y_0)).trans Y_0
      replace Y_1 := (hN1.cell (World.block_lt_of_cell? _ _ Y_1)).trans Y_1
      replace ra8 := Lib.hid (ra8.out.below hN1 (Nat.le_refl _))
      replace rb8 := Lib.hid (rb8.out.below hN1 (Nat.le_refl _))
      replace Q_0 := (hN1.cell (World.block_lt_of_cell? _ _ Q_0)).trans Q_0
      replace Q_1 := (hN1.cell (World.block_lt_of_cell? _ _ Q_1)).trans Q_1
      replace r6 := Lib.hid (r6.out.below hN1 (Nat.le_refl _))
      replace hc60 := (hN1.cell (World.block_lt_of_cell? _ _ hc60)).trans hc60
      have z_E2 := hN1.size; clear hN1
      go_wp2_with fail
      refine (hA.out E2 hT.out).mono ?_; rintro e V2 ⟨rfl, hN2⟩
      replace hT := Lib.hid (Below.then_ hT.out hN2)
      replace hP := Lib.hid (Below.then_ hP.out hN2)
      replace Y_0 := (hN2.cell (World.block_lt_of_cell? _ _ Y_0)).trans Y_0
      replace Y_1 := (hN2.cell (World.block_lt_of_cell? _ _ Y_1)).trans Y_1
      replace ra8 := Lib.hid (ra8.out.below hN2 (Nat.le_refl _))
      replace rb8 := Lib.hid (rb8.out.below hN2 (Nat.le_refl _))
      replace Q_0 := (hN2.cell (World.block_lt_of_cell? _ _ Q_0)).trans Q_0
      replace Q_1 := (hN2.cell (World.block_lt_of_cell? _ _ Q_1)).trans Q_1
      replace r6 := Lib.hid (r6.out.below hN2 (Nat.le_refl _))
      replace hc60 := (hN2.cell (World.block_lt_of_cell? _ _ hc60)).trans hc60
      clear hN2
      go_wp2
      go_ret
      exact ⟨rfl, hT.out⟩
end Go.Proofs.YtfljkcmijnhgkaaDoor
