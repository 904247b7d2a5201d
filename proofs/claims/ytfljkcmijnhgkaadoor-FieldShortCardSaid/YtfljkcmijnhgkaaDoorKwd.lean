/- The reference's Folded: its contract. Sequences: what lies in a space of sequences that is closed under shifts is a recurrence of at most as many terms as span it; so sums, products and folded products are. -/
import Derived.Test.YtfljkcmijnhgkaaDoorKwc
import Derived.Test.YtfljkcmijnhgkaaDoorKm
namespace Go.Proofs.YtfljkcmijnhgkaaDoor
open Go.RowKit Go.Shelf
set_option linter.unusedSimpArgs false

/-- The products that i numbers of the first list give at place n. -/
def folS (a b : List Int) (i n : Nat) : Int := psum (fun j => if j ≤ n then a.getD j 0 * b.getD (n - j) 0 % 65521 else 0) i % 65521
def folE (a b : List Int) (i k n : Nat) : Int := if n < i + k then folS a b (i + 1) n else folS a b i n
def folL (a b : List Int) (M i k : Nat) : List Int := (List.range M).map (folE a b i k)
theorem folL_len (a b : List Int) (M i k : Nat) : (folL a b M i k).length = M := by simp [folL]
theorem folS_over (a b : List Int) {i n : Nat} (h : n < i) : folS a b (i + 1) n = folS a b i n := by
  unfold folS
  rw [psum, if_neg (by omega), Int.add_zero]
theorem folS_step (a b : List Int) (i k : Nat) : folS a b (i + 1) (i + k) = (folS a b i (i + k) + a.getD i 0 * b.getD k 0) % 65521 := by
  unfold folS
  rw [psum, if_pos (by omega), Nat.add_sub_cancel_left]
  omega
theorem folL_zero (a b : List Int) (M : Nat) : folL a b M 0 0 = List.replicate M 0 := by
  apply List.ext_getElem?; intro j
  simp only [folL, List.getElem?_map, List.getElem?_replicate]
  by_cases hj : j < M
  · rw [List.getElem?_range hj, if_pos hj]; simp [folE, folS, psum]
  · rw [List.getElem?_eq_none (by simpa using hj), if_neg hj]; rfl
theorem folL_get (a b : List Int) {M i k : Nat} (h : i + k < M) : (folL a b M i k).getD (i + k) 0 = folS a b i (i + k) := by
  rw [folL, List.getD_eq_getElem?_getD, List.getElem?_map, List.getElem?_range h]
  simp [folE]
theorem folL_set (a b : List Int) {M i k : Nat} (h : i + k < M) : (folL a b M i k).set (i + k) (folS a b (i + 1) (i + k)) = folL a b M i (k + 1) := by
  apply List.ext_getElem?; intro j
  rw [List.getElem?_set]
  simp only [folL, List.getElem?_map, List.length_map, List.length_range]
  by_cases hj : j < M
  · rw [List.getElem?_range hj]
    by_cases e : i + k = j
    · subst e; simp only [if_true, h, Option.map_some]; rw [folE, if_pos (by omega)]
    · simp only [if_neg e, Option.map_some]
      unfold folE
      by_cases h2 : j < i + k
      · rw [if_pos h2, if_pos (by omega)]
      · rw [if_neg h2, if_neg (by omega)]
  · rw [List.getElem?_eq_none (l := List.range M) (by simpa using hj), if_neg (by omega)]; rfl
theorem folL_row (a b : List Int) {M i k : Nat} (h : i + k = M) : folL a b M i k = folL a b M (i + 1) 0 := by
  unfold folL
  refine List.map_congr_left fun j hj => ?_
  have hj := List.mem_range.1 hj
  unfold folE
  rw [if_pos (show j < i + k by omega)]
  by_cases h2 : j < i + 1 + 0
  · rw [if_pos h2, folS_over a b (show j < i + 1 by omega)]
  · rw [if_neg h2]
theorem folL_end (a b : List Int) (M : Nat) : folL a b M M 0 = (List.range M).map (joinT 2 a b) := by
  unfold folL
  refine List.map_congr_left fun n hn => ?_
  have hn := List.mem_range.1 hn
  have cut : ∀ d, folS a b (n + 1 + d) n = joinT 2 a b n := fun d => by
    induction d with
    | zero =>
      show psum _ (n + 1) % 65521 = psum _ (n + 1) % 65521
      rw [psum_congr (fun j hj => if_pos (show j ≤ n by omega))]
    | succ d ih => rw [← Nat.add_assoc, folS_over a b (by omega)]; exact ih
  unfold folE
  rw [if_pos (by omega)]
  obtain ⟨d, hd⟩ := Nat.exists_eq_add_of_le (show n + 1 ≤ M + 1 by omega)
  rw [hd]; exact cut d
set_option maxRecDepth 100000 in
set_option maxHeartbeats 6400000 in
theorem refFolded_any (r s : Rule) (v u : Value) (w : World) (h : RdR w v r) (h' : RdR w u s) :
    Calls Tryd.prog 38 #[v, u] w (RuleOut (refJoinR 2 r s) w) := by
  have hR := Lib.hid h
  have hS := Lib.hid h'
  obtain ⟨a1, b1, rfl, ra, rb⟩ := h
  obtain ⟨Aa, ca, rfl, -, -⟩ := ra.cell_
  obtain ⟨Ab, cb, rfl, -, -⟩ := rb.cell_
  obtain ⟨a2, b2, rfl, ra', rb'⟩ := h'
  obtain ⟨Ac, cc, rfl, -, -⟩ := ra'.cell_
  obtain ⟨Ad, cd, rfl, -, -⟩ := rb'.cell_
  clear ra rb ra' rb'
  obtain ⟨hbx, B0, B1, hn, hsz⟩ := box3 w (.slice Aa r.by_.length ca) (.slice Ab r.start.length cb) (.slice Ac s.by_.length cc) (.slice Ad s.start.length cd) (.slice none 0 0) (.slice none 0 0) 49
  have hbo := Lib.hid (refBoth_any r s _ _ _ (hR.out.below hbx (Nat.le_refl _)) (hS.out.below hbx (Nat.le_refl _)))
  by_cases h0 : bothR r s = 0
  · have hr : Hid (refJoinR 2 r s = madeR (joinL 2 r s)) := Lib.hid (by rw [refJoinR, if_neg (by simpa using h0)])
    obtain ⟨hr1, hr2⟩ := bothR_ok h0
    obtain ⟨o1, o2, o3, o4⟩ := rightR_ok hr1
    obtain ⟨q1, q2, q3, q4⟩ := rightR_ok hr2
    have hbig : 2 * joinO 2 r.by_.length s.by_.length ≤ 288 := by
      have h1 : r.by_.length * s.by_.length ≤ 12 * 12 := Nat.mul_le_mul o1 q1
      unfold joinO; split <;> omega
    have hfi := Lib.hid (fun n W (hn : n ≤ 1000) (hW : Below w.heap.size w W) => refFirst_any r n _ W (hR.out.below hW (Nat.le_refl _)) hr1 hn)
    have hfs := Lib.hid (fun n W (hn : n ≤ 1000) (hW : Below w.heap.size w W) => refFirst_any s n _ W (hS.out.below hW (Nat.le_refl _)) hr2 hn)
    have hmd := Lib.hid (fun v W hv => refMade_any (joinL 2 r s) v W (by rw [joinL_len]; omega) (joinL_bd _ _ _) hv)
    obtain ⟨M, hM⟩ : ∃ M, M = 2 * joinO 2 r.by_.length s.by_.length := ⟨_, rfl⟩
    have hj : Hid (joinL 2 r s = (List.range M).map (joinT 2 (firstL r M) (firstL s M))) := Lib.hid (by rw [hM]; rfl)
    rw [← hM] at hbig
    have lF := Lib.hid (firstL_len r M)
    have lS := Lib.hid (firstL_len s M)
    have bF := Lib.hid (firstL_bd o4 M)
    have bS := Lib.hid (firstL_bd q4 M)
    replace hfi := Lib.hid (hfi.out M)
    replace hfs := Lib.hid (hfs.out M)
    rw [hj.out] at hmd hr
    rw [h0] at hbo
    have hMn : Hid (∀ na ns, na = r.by_.length → ns = s.by_.length → 2 * (na + ns) = M) := Lib.hid (fun na ns e1 e2 => by rw [hM, e1, e2]; unfold joinO; simp [Nat.mul_assoc])
    clear h0 o2 o3 o4 q2 q3 q4 hR hS hr1 hr2 hj hM
    generalize firstL r M = FR at *
    generalize firstL s M = FS at *
    generalize refJoinR 2 r s = RES at *
    generalize hna : r.by_.length = na at *
    generalize hns : s.by_.length = ns at *
    generalize r.start.length = ma at *
    generalize s.start.length = ms at *
    have e2 : 2 * ((na : Int) + (ns : Int)) = (M : Int) := by have := hMn.out na ns rfl rfl; rw [← this]; simp
    replace e2 := e2
    clear hMn
    replace hna := Lib.hid hna
    replace hns := Lib.hid hns
    obtain ⟨F, hF⟩ : ∃ F : Nat → Int, F = joinT 2 FR FS := ⟨_, rfl⟩
    have hFe : Hid (∀ k, F k = joinT 2 FR FS k) := Lib.hid (fun k => by rw [hF])
    rw [← hF] at hmd hr
    clear hF
    go_enter Tryd.func38, Tryd.ntmps38
    go_wp2_with fail
    generalize ((w.alloc (.cells #[.slice Aa na ca, .slice Ab ma cb] 49)).alloc (.cells #[.slice Ac ns cc, .slice Ad ms cd] 49)).alloc (.cells #[.slice none 0 0, .slice none 0 0] 49) = X at *
    refine hbo.out.mono ?_; rintro e W1 ⟨rfl, hB1⟩
    have HG : Hid (∀ W, Below X.heap.size X W → W.heap[w.heap.size + 2]? = some (.cells #[.slice none 0 0, .slice none 0 0] 49 (0, 0))) := Lib.hid (fun W hW => (hW.block (w.heap.size + 2) (by omega)).trans hn)
    replace B0 := B0.below hB1
    replace B1 := B1.below hB1
    have tX := Lib.hid hB1
    replace hbx := Lib.hid hbx
    obtain ⟨c0, c1⟩ := id B0
    obtain ⟨c2, c3⟩ := id B1
    have hzW := hB1.size
    clear hn hbo hB1
    go_wp2
    refine D_begin (fun w' => Box2 w' w.heap.size (.slice Aa na ca) (.slice Ab ma cb) ∧ Box2 w' (w.heap.size + 1) (.slice Ac ns cc) (.slice Ad ms cd)) (fun _ => True) 99 (by kernel_rfl) ?_
    change wpAnyD _ _ _ _ _ _ _ _ _ _ W1.drew
    simp only [List.size_toArray, List.length_cons, List.length_nil, Nat.reduceAdd, Array.replicate_succ, Array.replicate_zero, List.push_toArray, List.append_toArray, List.nil_append, List.cons_append]
    replace B0 : Box2 W1.drew w.heap.size (.slice Aa na ca) (.slice Ab ma cb) := B0
    replace B1 : Box2 W1.drew (w.heap.size + 1) (.slice Ac ns cc) (.slice Ad ms cd) := B1
    replace tX := Lib.hid tX.out.drew
    have hzd : X.heap.size ≤ W1.drew.heap.size := hzW
    clear c0 c1 c2 c3 hzW
    generalize W1.drew = Wd at *
    refine D_take (i := 0) (v := ?_) rfl (by kernel_rfl) (by kernel_rfl) (by kernel_rfl) (by kernel_rfl) (fun _ _ _ h => h) (Or.inl ⟨by rfl, ?_⟩) ⟨B0, B1⟩ (fun _ => trivial) ?_
    rotate_left; · intro w1 hw1; obtain ⟨⟨hw1, hw2⟩, ⟨hw3, hw4⟩⟩ := hw1; go_simp; try with_reducible rfl
    try simp only [Act.put, List.getElem_toArray, List.getElem_cons_zero, List.getElem_cons_succ, List.setIfInBounds_toArray, List.set_cons_zero, List.set_cons_succ]
    refine D_take (i := 1) (v := ?_) rfl (by kernel_rfl) (by kernel_rfl) (by kernel_rfl) (by kernel_rfl) (fun _ _ _ h => h) (Or.inl ⟨by rfl, ?_⟩) ⟨B0, B1⟩ (fun _ => trivial) ?_
    rotate_left; · intro w1 hw1; obtain ⟨⟨hw1, hw2⟩, ⟨hw3, hw4⟩⟩ := hw1; go_simp; try with_reducible rfl
    try simp only [Act.put, List.getElem_toArray, List.getElem_cons_zero, List.getElem_cons_succ, List.setIfInBounds_toArray, List.set_cons_zero, List.set_cons_succ]
    refine D_take (i := 3) (v := ?_) rfl (by kernel_rfl) (by kernel_rfl) (by kernel_rfl) (by kernel_rfl) (fun _ _ _ h => h) (Or.inl ⟨by rfl, ?_⟩) ⟨B0, B1⟩ (fun _ => trivial) ?_
    rotate_left; · intro w1 hw1; obtain ⟨⟨hw1, hw2⟩, ⟨hw3, hw4⟩⟩ := hw1; go_simp; try with_reducible rfl
    try simp only [Act.put, List.getElem_toArray, List.getElem_cons_zero, List.getElem_cons_succ, List.setIfInBounds_toArray, List.set_cons_zero, List.set_cons_succ]
    refine D_take (i := 4) (v := ?_) rfl (by kernel_rfl) (by kernel_rfl) (by kernel_rfl) (by kernel_rfl) (fun _ _ _ h => h) (Or.inl ⟨by rfl, ?_⟩) ⟨B0, B1⟩ (fun _ => trivial) ?_
    rotate_left; · intro w1 hw1; obtain ⟨⟨hw1, hw2⟩, ⟨hw3, hw4⟩⟩ := hw1; go_simp; try with_reducible rfl
    try simp only [Act.put, List.getElem_toArray, List.getElem_cons_zero, List.getElem_cons_succ, List.setIfInBounds_toArray, List.set_cons_zero, List.set_cons_succ]
    refine D_one (i := 2) (by kernel_rfl) rfl ?_
    intro K hK
    rw [if_pos (by rfl)]
    go_wp2_with fail
    refine (hfi.out Wd (by omega) (Below.then_ hbx.out tX.out)).mono ?_; rintro e W4 ⟨⟨av, rfl, oa⟩, hN_W4⟩
    replace B0 := B0.below hN_W4
    replace B1 := B1.below hN_W4
    replace tX := Lib.hid (Below.then_ tX.out hN_W4)
    have z_W4 := hN_W4.size; clear hN_W4
    refine hK _ _ ⟨B0, B1⟩ (fun _ _ => trivial) ?_
    clear hK K
    try simp only [Act.put, List.getElem_toArray, List.getElem_cons_zero, List.getElem_cons_succ, List.setIfInBounds_toArray, List.set_cons_zero, List.set_cons_succ]
    replace oa := Lib.hid (oa.rd (by rw [lF.out]; omega))
    refine D_one (i := 5) (by kernel_rfl) rfl ?_
    intro K hK
    rw [if_pos (by rfl)]
    go_wp2_with fail
    refine (hfs.out W4 (by omega) (Below.then_ hbx.out tX.out)).mono ?_; rintro e W5 ⟨⟨bv, rfl, ob⟩, hN_W5⟩
    replace B0 := B0.below hN_W5
    replace B1 := B1.below hN_W5
    replace tX := Lib.hid (Below.then_ tX.out hN_W5)
    replace oa := Lib.hid (oa.out.below hN_W5 (Nat.le_refl _))
    have z_W5 := hN_W5.size; clear hN_W5
    refine hK _ _ ⟨B0, B1⟩ (fun _ _ => trivial) ?_
    clear hK K
    try simp only [Act.put, List.getElem_toArray, List.getElem_cons_zero, List.getElem_cons_succ, List.setIfInBounds_toArray, List.set_cons_zero, List.set_cons_succ]
    refine D_take (i := 6) (v := ?_) rfl (by kernel_rfl) (by kernel_rfl) (by kernel_rfl) (by kernel_rfl) (fun _ _ _ h => h) (Or.inl ⟨by rfl, ?_⟩) ⟨B0, B1⟩ (fun _ => trivial) ?_
    rotate_left; · intro w1 hw1; go_simp; try with_reducible rfl
    try simp only [Act.put, List.getElem_toArray, List.getElem_cons_zero, List.getElem_cons_succ, List.setIfInBounds_toArray, List.set_cons_zero, List.set_cons_succ]
    refine D_take (i := 7) (v := ?_) rfl (by kernel_rfl) (by kernel_rfl) (by kernel_rfl) (by kernel_rfl) (fun _ _ _ h => h) (Or.inl ⟨by rfl, ?_⟩) ⟨B0, B1⟩ (fun _ => trivial) ?_
    rotate_left; · intro w1 hw1; go_simp; try with_reducible rfl
    try simp only [Act.put, List.getElem_toArray, List.getElem_cons_zero, List.getElem_cons_succ, List.setIfInBounds_toArray, List.set_cons_zero, List.set_cons_succ]
    refine D_done (by kernel_rfl) ?_ _
    have ob5 := Lib.hid (ob.rd (by rw [lS.out]; omega))
    have hro := oa.out.open_
    have hrb := ob5.out.open_
    rw [lF.out] at hro
    rw [lS.out] at hrb
    obtain ⟨A, c, rfl, -, -, hca⟩ := hro
    obtain ⟨B, d, rfl, -, -, hcb⟩ := hrb
    replace hca := Lib.hid hca
    replace hcb := Lib.hid hcb
    replace tX := Lib.hid tX.out
    have hw5 := tX.out.size
    have hmk := run_make_row' (P := Tryd.prog) 23 3 _ _ Tryd.underlying23 infoI rfl .i64 .i64 M (by omega) (by omega)
    have h0 := Lib.hid (OwnI_made W5 W5.heap.size M (Nat.le_refl _) (by unfold maxLen; omega))
    have hB0 : Hid (Below W5.heap.size W5 (W5.alloc (.cells (madeCells #[.int .i64 0] M) 3))) := Lib.hid ((Below.refl _ _).alloc (Nat.le_refl _) _)
    clear oa ob ob5 B0 B1 hfi hfs
    go_wp2
    generalize W5.alloc (.cells (madeCells #[.int .i64 0] M) 3) = w1 at h0 hB0 ⊢
    clear hmk
    go_loopw [11, 12] (fun ii _ wr => ∃ i : Nat, i ≤ M ∧ ii = .int .i64 i ∧ Hid (Below W5.heap.size W5 wr) ∧ Hid (OwnI wr W5.heap.size (.slice (some ⟨W5.heap.size, 0, none⟩) M M) (folL FR FS M i 0))) (fun ii _ _ => M - (intOf ii).toNat)
    case atStart => exact ⟨0, Nat.zero_le _, rfl, hB0, Lib.hid (by rw [folL_zero]; exact h0.out)⟩
    case round =>
      obtain ⟨i, hi, rfl, hB, hO⟩ := hrel
      rename World => wr
      by_cases him : i < M
      · have i1 : (i : Int) < (M : Int) := by omega
        have i0 : (0 : Int) ≤ (i : Int) := by omega
        go_wp2
        obtain ⟨wo, rfl⟩ : ∃ wo : World, wo = wr := ⟨_, rfl⟩
        go_loopw [12] (fun ii wr => ∃ k : Nat, i + k ≤ M ∧ ii = .int .i64 k ∧ Hid (Below W5.heap.size W5 wr) ∧ Hid (OwnI wr W5.heap.size (.slice (some ⟨W5.heap.size, 0, none⟩) M M) (folL FR FS M i k))) (fun ii _ => M - (intOf ii).toNat)
        case atStart => exact ⟨0, by omega, rfl, hB, hO⟩
        case round =>
          obtain ⟨k, hk, rfl, hB, hO⟩ := hrel
          rename World => wr2
          have e3 : (i : Int) + (k : Int) = ((i + k : Nat) : Int) := by omega
          by_cases hkm : i + k < M
          · obtain ⟨ba, oa, rfl, hc1⟩ := hca.out i him
            obtain ⟨bb, ob, rfl, hc2⟩ := hcb.out k (by omega)
            have hc1' := (hB.out.cell (World.block_lt_of_cell? W5 _ hc1)).trans hc1
            have hc2' := (hB.out.cell (World.block_lt_of_cell? W5 _ hc2)).trans hc2
            obtain ⟨hxc, hxf⟩ := hO.out.num (k := i + k) (by rw [folL_len]; exact hkm)
            rw [folL_get FR FS hkm] at hxc
            have hput := (hO.out.below ((Below.refl wr2.heap.size wr2).drew)).put (i + k) (folS FR FS (i + 1) (i + k))
            rw [folL_set FR FS hkm, folS_step] at hput
            have hS : 0 ≤ folS FR FS i (i + k) ∧ folS FR FS i (i + k) < 65521 := ⟨Int.emod_nonneg _ (by decide), Int.emod_lt_of_pos _ (by decide)⟩
            have bf := bF.out (FR.getD i 0) (by rw [List.getD_eq_getElem?_getD, List.getElem?_eq_getElem (by rw [lF.out]; exact him)]; exact List.getElem_mem _)
            have bs := bS.out (FS.getD k 0) (by rw [List.getD_eq_getElem?_getD, List.getElem?_eq_getElem (by rw [lS.out]; omega)]; exact List.getElem_mem _)
            have ⟨m1, m2⟩ := mul_bd bf.1 bf.2 bs.1 bs.2
            have hB3 : Hid (Below W5.heap.size W5 (wr2.drew.setCell ⟨W5.heap.size, i + k, none⟩ (.int .i64 ((folS FR FS i (i + k) + FR.getD i 0 * FS.getD k 0) % 65521)))) := Lib.hid (hB.out.drew.setCell (Nat.le_refl _) _)
            replace hput := Lib.hid hput
            clear hc1 hc2 hO hB
            generalize folS FR FS i (i + k) = S at *
            generalize FR.getD i 0 = x at *
            generalize FS.getD k 0 = y at *
            have w4 : IntKind.i64.wrap (x * y) = x * y := IntWalk.i64_in _ ⟨by omega, by omega⟩
            have w5 : IntKind.i64.wrap (S + x * y) = S + x * y := IntWalk.i64_in _ ⟨by omega, by omega⟩
            have w6 : (S + x * y).tmod 65521 = (S + x * y) % 65521 := Int.tmod_eq_emod_of_nonneg (by omega)
            have w7 : IntKind.i64.wrap ((i + k : Nat) : Int) = ((i + k : Nat) : Int) := IntWalk.i64_in _ ⟨by omega, by omega⟩
            have k1 : (k : Int) < (M : Int) := by omega
            have k0 : (0 : Int) ≤ (k : Int) := by omega
            have k3 : ((i + k : Nat) : Int) < (M : Int) := by omega
            have k4 : (0 : Int) ≤ ((i + k : Nat) : Int) := by omega
            clear bf bs hS m1 m2 
            generalize hik : i + k = n at *
            replace hik := Lib.hid hik
            go_wp2
            go_still_tail 22, (by kernel_rfl)
            change wpList _ _ _ _ _ wr2.drew
            replace hxc : wr2.drew.cell? _ = _ := hxc
            replace hxf : wr2.drew.frozen? _ = _ := hxf
            clear hc1' hc2'
            generalize wr2.drew = wd at hxc hxf hput hB3 ⊢
            go_wp2
            go_roundw
            case rel => exact ⟨k + 1, by have := hik.out; omega, by go_num, hB3, by rw [show folL FR FS M i (k + 1) = folL FR FS M i (k + 1) from rfl]; exact hput⟩
            case measure => simp [intOf] <;> have := hik.out <;> omega
          · have hik : i + k = M := by omega
            have k3 : ¬ ((i + k : Nat) : Int) < (M : Int) := by omega
            have w7 : IntKind.i64.wrap ((i + k : Nat) : Int) = ((i + k : Nat) : Int) := IntWalk.i64_in _ ⟨by omega, by omega⟩
            have hO2 : Hid (OwnI wr2 W5.heap.size (.slice (some ⟨W5.heap.size, 0, none⟩) M M) (folL FR FS M (i + 1) 0)) := Lib.hid (by rw [← folL_row FR FS hik]; exact hO.out)
            clear hO
            generalize i + k = n at *
            replace hik := Lib.hid hik
            go_wp2
            go_roundw
            case rel => exact ⟨i + 1, by omega, by go_num, hB, hO2⟩
            case measure => simp [intOf] <;> omega
      · obtain rfl : M = i := by omega
        have hO2 := hO.out
        rw [folL_end, ← show (List.range M).map F = (List.range M).map (joinT 2 FR FS) from List.map_congr_left fun j _ => hFe.out j] at hO2
        have htw := Lib.hid ((Below.then_ hbx.out tX.out).trans (hB.out.mono (by omega)))
        have hgb : wr.heap[w.heap.size + 2]? = some (.cells #[.slice none 0 0, .slice none 0 0] 49 (0, 0)) := (hB.out.block _ (by omega)).trans (HG.out _ tX.out)
        have hs := Lib.hid (hmd.out _ wr (hO2.rd (by simp; omega)))
        unfold RuleOut at hs
        clear hO2 hO
        go_wp2_with fail
        refine hs.out.mono ?_; rintro e W7 ⟨vr, rfl, oR, hB7⟩
        change OwnR _ _ _ _ at oR
        obtain ⟨rA, rn, rc, rB, rm, rd, rfl⟩ := oR.shape
        have hgE := (hB7.block _ (lt_of_block hgb)).trans hgb
        obtain ⟨p0, p1, p2, p3⟩ := ret_cell hgE
        have hzz := htw.out.size
        have hT := Lib.hid (Below.then_ htw.out hB7)
        have hRE := Lib.hid (own_kept oR hzz (fun _ _ _ => rfl))
        replace hgE := Lib.hid hgE
        clear hgb hB7 oR hs
        go_wp2
        refine bodyPost_ret (res_ct rfl _ _ (w.heap.size + 2) 49 #[.slice rA rn rc, .slice rB rm rd] (0, 0) _ rfl (heap_set2 _ _ hgE.out) rfl rfl rfl) rfl ?_
        rw [hr.out]
        exact ⟨_, rfl, own_apart hRE.out hgE.out, (hT.out.setCell (p := ⟨w.heap.size + 2, 0, none⟩) (by simp) _).setCell (p := ⟨w.heap.size + 2, 1, none⟩) (by simp) _⟩
  · have hr : Hid (refJoinR 2 r s = (⟨[], []⟩, bothR r s)) := Lib.hid (by rw [refJoinR, if_pos h0])
    have hne : (bothR r s != 0) = true := by rw [bne_iff_ne]; exact h0
    generalize bothR r s = x at *
    clear hR hS h0
    generalize refJoinR 2 r s = RES at *
    generalize r.by_.length = na at *
    generalize s.by_.length = ns at *
    generalize r.start.length = ma at *
    generalize s.start.length = ms at *
    go_enter Tryd.func38, Tryd.ntmps38
    go_wp2_with fail
    generalize ((w.alloc (.cells #[.slice Aa na ca, .slice Ab ma cb] 49)).alloc (.cells #[.slice Ac ns cc, .slice Ad ms cd] 49)).alloc (.cells #[.slice none 0 0, .slice none 0 0] 49) = X at *
    refine hbo.out.mono ?_; rintro e W1 ⟨rfl, hB1⟩
    have hB2 := Below.then_ hbx hB1
    have hg2 := (hB1.block (w.heap.size + 2) (by omega)).trans hn
    obtain ⟨p0, p1, p2, p3⟩ := ret_cell hg2
    clear hn hsz hbx
    go_wp2
    refine bodyPost_ret (res_ct rfl _ _ (w.heap.size + 2) 49 #[.slice none 0 0, .slice none 0 0] (0, 0) _ rfl (heap_set2 _ _ hg2) rfl rfl rfl) rfl ?_
    rw [hr.out]
    exact ⟨_, rfl, ⟨_, _, rfl, OwnI_nil _ _, OwnI_nil _ _⟩, (hB2.setCell (p := ⟨w.heap.size + 2, 0, none⟩) (by simp) _).setCell (p := ⟨w.heap.size + 2, 1, none⟩) (by simp) _⟩
end Go.Proofs.YtfljkcmijnhgkaaDoor

namespace Go.Proofs.YtfljkcmijnhgkaaDoor

theorem S_trunc {n k : Nat} {f : Nat → Fp} (hk : k ≤ n) (h : ∀ i, k ≤ i → i < n → f i = 0) : S n f = S k f := by
  obtain ⟨d, rfl⟩ := Nat.exists_eq_add_of_le hk
  rw [S_split, S_zero (n := d) (fun i hi => h _ (by omega) (by omega))]; grind
theorem S_turn (n : Nat) (f : Nat → Fp) : S n f = S n (fun i => f (n - 1 - i)) := by
  induction n with
  | zero => rfl
  | succ n ih =>
    rw [S, ih, S_first n (fun i => f (n + 1 - 1 - i)), S_congr (n := n) (f := fun i => f (n + 1 - 1 - (i + 1))) (g := fun i => f (n - 1 - i)) (fun i _ => by rw [show n + 1 - 1 - (i + 1) = n - 1 - i by omega])]
    simp only [Nat.add_sub_cancel, Nat.sub_zero]; grind
theorem greatest {x : Nat → Fp} : ∀ {n : Nat}, (∃ i, i < n ∧ x i ≠ 0) → ∃ k, k < n ∧ x k ≠ 0 ∧ ∀ i, k < i → i < n → x i = 0
  | 0, ⟨i, h, _⟩ => by omega
  | n + 1, ⟨i, h, hi⟩ => by
    by_cases hn : x n = 0
    · obtain ⟨k, h1, h2, h3⟩ := greatest (n := n) (x := x) ⟨i, by rcases Nat.lt_succ_iff_lt_or_eq.1 h with h | h; exact h; rw [h] at hi; exact absurd hn hi, hi⟩
      exact ⟨k, by omega, h2, fun j h4 h5 => by by_cases e : j = n; rw [e]; exact hn; exact h3 j h4 (by omega)⟩
    · exact ⟨n, by omega, hn, fun j h4 h5 => by omega⟩
theorem Sp.shift {N : Nat} {e : Mx} (hsh : ∀ j, j < N → Sp N e (fun t => e j (t + 1))) {u : Nat → Fp} (hu : Sp N e u) : Sp N e (fun t => u (t + 1)) := by
  obtain ⟨c, hc⟩ := hu
  have h : Sp N (fun j t => e j (t + 1)) (fun t => u (t + 1)) := ⟨c, fun t => hc (t + 1)⟩
  exact h.trans hsh
/-- A recurrence of at most N terms. -/
theorem shift_rec {N : Nat} {e : Mx} (hsh : ∀ j, j < N → Sp N e (fun t => e j (t + 1))) {s : Nat → Fp} (hs : Sp N e s) : ∃ k, k ≤ N ∧ ∃ c : Nat → Fp, ∀ t, s (t + k) = S k (fun i => c i * s (t + i)) := by
  obtain ⟨x, hx0, hx⟩ := depend (N + 1) (List.range N) (fun i j => e j i) (by simp)
  obtain ⟨k, hk, hxk, hgt⟩ := greatest hx0
  have hm := mul_inv hxk
  have h0 : ∀ j, j < N → e j k = S k (fun i => - x i * inv (x k) * e j i) := fun j hj => by
    have h := hx j (List.mem_range.2 hj)
    rw [S_trunc (k := k + 1) (by omega) (fun i h1 h2 => by rw [hgt i (by omega) h2]; grind), S] at h
    rw [S_congr (g := fun i => - inv (x k) * (x i * e j i)) (fun i _ => by grind), S_mul]
    generalize S k (fun i => x i * e j i) = T at *
    grind
  have hrec : ∀ t, ∀ j, j < N → e j (t + k) = S k (fun i => - x i * inv (x k) * e j (t + i)) := fun t => by
    induction t with
    | zero => intro j hj; simp only [Nat.zero_add]; exact h0 j hj
    | succ t ih =>
      intro j hj
      obtain ⟨M, hM⟩ := hsh j hj
      replace hM : ∀ t, e j (t + 1) = S N (fun i => M i * e i t) := hM
      rw [show t + 1 + k = (t + k) + 1 by omega, hM (t + k), S_congr (g := fun q => S k (fun i => - x i * inv (x k) * (M q * e q (t + i)))) (fun q hq => by rw [ih q hq, ← S_mul]; exact S_congr fun i _ => by grind), S_swap]
      refine S_congr fun i _ => ?_
      rw [S_mul, show t + 1 + i = (t + i) + 1 by omega, hM (t + i)]
  obtain ⟨l, hl⟩ := hs
  refine ⟨k, by omega, fun i => - x i * inv (x k), fun t => ?_⟩
  rw [hl, S_congr (g := fun q => S k (fun i => - x i * inv (x k) * (l q * e q (t + i)))) (fun q hq => by rw [hrec t q hq, ← S_mul]; exact S_congr fun i _ => by grind), S_swap]
  refine S_congr fun i _ => ?_
  rw [S_mul, hl]
/-- A rule fits a list of a sequence that is a recurrence. -/
theorem fit_of_rec {L : List Int} (hb : ∀ x ∈ L, 0 ≤ x ∧ x < 65521) {s : Nat → Fp} (hL : ∀ j, j < L.length → toF (L.getD j 0) = s j) {k : Nat} (hk : k ≤ L.length) {c : Nat → Fp} (hrec : ∀ t, s (t + k) = S k (fun i => c i * s (t + i))) : (fitO L k).isSome = true := by
  have hs := solvedM_complete (rs := rowsL L k) (b := L.drop k) (n := L.length - k) (m := k) (okM_rowsL hb k) (fun x hx => hb x (List.mem_of_mem_drop hx)) (by rw [List.length_drop]) (y := fun j => c (k - 1 - j)) (fun i hi => by
    have e1 : toF ((L.drop k).getD i 0) = s (i + k) := by
      rw [List.getD_eq_getElem?_getD, List.getElem?_drop, ← List.getD_eq_getElem?_getD, hL _ (by omega), Nat.add_comm]
    rw [e1, hrec i, S_turn k (fun q => c q * s (i + q))]
    refine S_congr fun j hj => ?_
    have e2 : G (rowsL L k) i j = s (i + (k - 1 - j)) := by
      show toF (gM _ i j) = _
      rw [rowsL, gM_mat _ hi hj, hL _ (by omega), show k + i - 1 - j = i + (k - 1 - j) by omega]
    rw [e2]; grind)
  rw [fitO, hs]; rfl
/-- A rule's sequence. -/
def seqF (r : Rule) (t : Nat) : Fp := toF (termK r t)
theorem firstL_get (r : Rule) : ∀ (N j : Nat), j < N → (firstL r N).getD j 0 = termK r j := fun N => by
  induction N with
  | zero => intro j hj; omega
  | succ N ih =>
    intro j hj
    rw [firstL_succ, List.getD_eq_getElem?_getD]
    by_cases e : j < N
    · rw [List.getElem?_append_left (by rw [firstL_len]; exact e), ← List.getD_eq_getElem?_getD]; exact ih j e
    · have : j = N := by omega
      subst this
      rw [List.getElem?_append_right (by rw [firstL_len]; exact Nat.le_refl _), firstL_len, Nat.sub_self]; rfl
theorem seq_rec {r : Rule} (h : r.start.length = r.by_.length) (t : Nat) : seqF r (t + r.by_.length) = S r.by_.length (fun i => toF (r.by_.getD (r.by_.length - 1 - i) 0) * seqF r (t + i)) := by
  unfold seqF
  rw [termK, if_neg (by omega), nextT, toF_emod, toF_psum, S_turn]
  refine S_congr fun i hi => ?_
  rw [toF_emod, toF_mul, firstL_len, firstL_get _ _ _ (by omega), show t + r.by_.length - 1 - (r.by_.length - 1 - i) = t + i by omega]
/-- The shifts of a sequence. -/
def shR (a : Nat → Fp) : Mx := fun j t => a (t + j)
theorem shR_row {a : Nat → Fp} {m : Nat} {c : Nat → Fp} (hr : ∀ t, a (t + m) = S m (fun i => c i * a (t + i))) : ∀ j, j < m → Sp m (shR a) (fun t => shR a j (t + 1)) := fun j hj => by
  by_cases e : j + 1 < m
  · have := Sp.row (shR a) e
    rwa [show shR a (j + 1) = fun t => shR a j (t + 1) from funext fun t => by show a _ = a _; congr 1; omega] at this
  · have e2 : j + 1 = m := by omega
    exact ⟨c, fun t => by show a (t + 1 + j) = _; rw [show t + 1 + j = t + m by omega, hr]; rfl⟩
theorem shR_all {a : Nat → Fp} {m : Nat} {c : Nat → Fp} (hr : ∀ t, a (t + m) = S m (fun i => c i * a (t + i))) : ∀ j, Sp m (shR a) (fun t => a (t + j)) := fun j => by
  induction j with
  | zero =>
    by_cases h : 0 < m
    · exact Sp.row (shR a) h
    · obtain rfl : m = 0 := by omega
      exact ⟨c, fun t => hr t⟩
  | succ j ih =>
    have := ih.shift (shR_row hr)
    rwa [show (fun t => a (t + 1 + j)) = fun t => a (t + (j + 1)) from funext fun t => by congr 1; omega] at this
variable {a b : Nat → Fp} {m n : Nat} {c d : Nat → Fp}
theorem Sp.eq {N : Nat} {e : Mx} {u v : Nat → Fp} (h : Sp N e u) (he : ∀ t, v t = u t) : Sp N e v := by
  rw [show v = u from funext he]; exact h
/-- Sums. -/
theorem sum_rec (ha : ∀ t, a (t + m) = S m (fun i => c i * a (t + i))) (hb : ∀ t, b (t + n) = S n (fun i => d i * b (t + i))) : ∃ k, k ≤ m + n ∧ ∃ f : Nat → Fp, ∀ t, a (t + k) + b (t + k) = S k (fun i => f i * (a (t + i) + b (t + i))) := by
  have ra : ∀ i, i < m → Sp (m + n) (fun j t => if j < m then a (t + j) else b (t + (j - m))) (shR a i) := fun i hi => (Sp.row _ (show i < m + n by omega)).eq fun t => by simp only [hi, if_true]; rfl
  have rb : ∀ i, i < n → Sp (m + n) (fun j t => if j < m then a (t + j) else b (t + (j - m))) (shR b i) := fun i hi => (Sp.row _ (show m + i < m + n by omega)).eq fun t => by
    simp only [show ¬ m + i < m by omega, if_false, Nat.add_sub_cancel_left]; rfl
  have sa : ∀ j, Sp (m + n) (fun j t => if j < m then a (t + j) else b (t + (j - m))) (fun t => a (t + j)) := fun j => (shR_all ha j).trans ra
  have sb : ∀ j, Sp (m + n) (fun j t => if j < m then a (t + j) else b (t + (j - m))) (fun t => b (t + j)) := fun j => (shR_all hb j).trans rb
  refine shift_rec (N := m + n) (s := fun t => a t + b t) (fun j hj => ?_) (((sa 0).add (sb 0) 1 1).eq fun t => by simp only [Nat.add_zero]; grind)
  by_cases h : j < m
  · exact (sa (j + 1)).eq fun t => by simp only [h, if_true]; congr 1; omega
  · exact (sb (j - m + 1)).eq fun t => by simp only [h, if_false]; congr 1; omega
/-- Products term by term. -/
theorem times_rec (ha : ∀ t, a (t + m) = S m (fun i => c i * a (t + i))) (hb : ∀ t, b (t + n) = S n (fun i => d i * b (t + i))) : ∃ k, k ≤ m * n ∧ ∃ f : Nat → Fp, ∀ t, a (t + k) * b (t + k) = S k (fun i => f i * (a (t + i) * b (t + i))) := by
  have row : ∀ p q, p < m → q < n → Sp (m * n) (fun j t => a (t + j / n) * b (t + j % n)) (fun t => a (t + p) * b (t + q)) := fun p q hp hq => by
    have hlt : p * n + q < m * n := by
      have : (p + 1) * n ≤ m * n := Nat.mul_le_mul_right n hp
      rw [Nat.add_mul] at this; omega
    refine (Sp.row _ hlt).eq fun t => ?_
    have h1 : (p * n + q) / n = p := by
      rw [Nat.mul_comm, Nat.mul_add_div (by omega), Nat.div_eq_of_lt hq]; omega
    have h2 : (p * n + q) % n = q := by rw [Nat.mul_comm, Nat.mul_add_mod, Nat.mod_eq_of_lt hq]
    rw [h1, h2]
  have all : ∀ p q, Sp (m * n) (fun j t => a (t + j / n) * b (t + j % n)) (fun t => a (t + p) * b (t + q)) := fun p q => by
    obtain ⟨α, hα⟩ := shR_all ha p
    obtain ⟨β, hβ⟩ := shR_all hb q
    have h1 : ∀ i, i < m → Sp (m * n) (fun j t => a (t + j / n) * b (t + j % n)) (fun t => a (t + i) * b (t + q)) := fun i hi => by
      have h2 : Sp n (fun k t => a (t + i) * b (t + k)) (fun t => a (t + i) * b (t + q)) := ⟨β, fun t => by
        show a (t + i) * (fun t => b (t + q)) t = _
        rw [hβ, ← S_mul]; exact S_congr fun k _ => by show _ * (_ * b (t + k)) = _; grind⟩
      exact h2.trans fun k hk => row i k hi hk
    have h3 : Sp m (fun i t => a (t + i) * b (t + q)) (fun t => a (t + p) * b (t + q)) := ⟨α, fun t => by
      show (fun t => a (t + p)) t * b (t + q) = _
      rw [hα, ← S_mul']; exact S_congr fun i _ => by show α i * a (t + i) * _ = _; grind⟩
    exact h3.trans h1
  exact shift_rec (N := m * n) (s := fun t => a t * b t) (fun j hj => (all (j / n + 1) (j % n + 1)).eq fun t => by
    rw [show t + 1 + j / n = t + (j / n + 1) by omega, show t + 1 + j % n = t + (j % n + 1) by omega]) ((all 0 0).eq fun t => rfl)
/-- Folded products, the second sequence shifted. -/
def fold (a b : Nat → Fp) (q t : Nat) : Fp := S (t + 1) (fun i => a i * b (t - i + q))
theorem fold_succ (a b : Nat → Fp) (q t : Nat) : fold a b q (t + 1) = fold a b (q + 1) t + b q * a (t + 1) := by
  unfold fold
  rw [S, S_congr (g := fun i => a i * b (t - i + (q + 1))) (fun i hi => by rw [show t + 1 - i + q = t - i + (q + 1) by omega]), Nat.sub_self, Nat.zero_add]; grind
theorem fold_rec (ha : ∀ t, a (t + m) = S m (fun i => c i * a (t + i))) (hb : ∀ t, b (t + n) = S n (fun i => d i * b (t + i))) : ∃ k, k ≤ m + n ∧ ∃ f : Nat → Fp, ∀ t, fold a b 0 (t + k) = S k (fun i => f i * fold a b 0 (t + i)) := by
  have ra : ∀ i, i < m → Sp (m + n) (fun j t => if j < m then a (t + j) else fold a b (j - m) t) (shR a i) := fun i hi => (Sp.row _ (show i < m + n by omega)).eq fun t => by simp only [hi, if_true]; rfl
  have sa : ∀ j, Sp (m + n) (fun j t => if j < m then a (t + j) else fold a b (j - m) t) (fun t => a (t + j)) := fun j => (shR_all ha j).trans ra
  have rf : ∀ q, q < n → Sp (m + n) (fun j t => if j < m then a (t + j) else fold a b (j - m) t) (fold a b q) := fun q hq => (Sp.row _ (show m + q < m + n by omega)).eq fun t => by
    simp only [show ¬ m + q < m by omega, if_false, Nat.add_sub_cancel_left]
  have rn : Sp (m + n) (fun j t => if j < m then a (t + j) else fold a b (j - m) t) (fold a b n) := by
    have h : Sp n (fun q => fold a b q) (fold a b n) := ⟨d, fun t => by
      unfold fold
      rw [S_congr (g := fun i => S n (fun q => d q * (a i * b (t - i + q)))) (fun i _ => by rw [hb, ← S_mul]; exact S_congr fun q _ => by grind), S_swap]
      exact S_congr fun q _ => by rw [S_mul]⟩
    exact h.trans rf
  have all : ∀ q, q ≤ n → Sp (m + n) (fun j t => if j < m then a (t + j) else fold a b (j - m) t) (fold a b q) := fun q hq => by
    by_cases e : q = n
    · rw [e]; exact rn
    · exact rf q (by omega)
  refine shift_rec (N := m + n) (s := fold a b 0) (fun j hj => ?_) (all 0 (by omega))
  by_cases h : j < m
  · exact (sa (j + 1)).eq fun t => by simp only [h, if_true]; congr 1; omega
  · exact ((all (j - m + 1) (by omega)).add (sa 1) 1 (b (j - m))).eq fun t => by simp only [h, if_false]; rw [fold_succ]; grind
/-- The sequence that two are put together to. -/
def joinF (h : Nat) (r s : Rule) (t : Nat) : Fp := match h with
  | 0 => seqF r t + seqF s t
  | 1 => seqF r t * seqF s t
  | _ => fold (seqF r) (seqF s) 0 t
theorem joinL_get (h : Nat) (r s : Rule) (j : Nat) (hj : j < (joinL h r s).length) : toF ((joinL h r s).getD j 0) = joinF h r s j := by
  rw [joinL_len] at hj
  have e : (joinL h r s).getD j 0 = joinT h (firstL r (2 * joinO h r.by_.length s.by_.length)) (firstL s (2 * joinO h r.by_.length s.by_.length)) j := by
    rw [joinL, List.getD_eq_getElem?_getD, List.getElem?_map, List.getElem?_range hj]; rfl
  rw [e]
  match h with
  | 0 => show toF ((_ + _) % 65521) = _; rw [toF_emod, toF_add, firstL_get _ _ _ hj, firstL_get _ _ _ hj]; rfl
  | 1 => show toF (_ * _ % 65521) = _; rw [toF_emod, toF_mul, firstL_get _ _ _ hj, firstL_get _ _ _ hj]; rfl
  | h + 2 =>
    show toF (psum _ _ % 65521) = _
    rw [toF_emod, toF_psum]
    show _ = fold (seqF r) (seqF s) 0 j
    unfold fold
    refine S_congr fun i hi => ?_
    rw [toF_emod, toF_mul, firstL_get _ _ _ (by omega), firstL_get _ _ _ (by omega), Nat.add_zero]; rfl
theorem joinF_rec {h : Nat} {r s : Rule} (hr : r.start.length = r.by_.length) (hs : s.start.length = s.by_.length) : ∃ k, k ≤ joinO h r.by_.length s.by_.length ∧ ∃ f : Nat → Fp, ∀ t, joinF h r s (t + k) = S k (fun i => f i * joinF h r s (t + i)) := by
  match h with
  | 0 => exact sum_rec (seq_rec hr) (seq_rec hs)
  | 1 => exact times_rec (seq_rec hr) (seq_rec hs)
  | h + 2 =>
    rw [show joinO (h + 2) r.by_.length s.by_.length = r.by_.length + s.by_.length from rfl]
    exact fold_rec (seq_rec hr) (seq_rec hs)
/-- The program looks at no longer rules than two orders allow; the reference at all. -/
theorem joinR_ref (h : Nat) (r s : Rule) : joinR h r s = refJoinR h r s := by
  unfold joinR refJoinR
  by_cases h0 : bothR r s ≠ 0
  · rw [if_pos h0, if_pos h0]
  · rw [if_neg h0, if_neg h0]
    obtain ⟨h1, h2⟩ := bothR_ok (by simpa using h0)
    obtain ⟨o1, o2, -⟩ := rightR_ok h1
    obtain ⟨q1, q2, -⟩ := rightR_ok h2
    have e : fitM (joinL h r s) (min (joinO h r.by_.length s.by_.length) 12) = fitM (joinL h r s) 12 := by
      obtain ⟨k, hk, f, hf⟩ := joinF_rec (h := h) o2 q2
      by_cases h12 : 12 ≤ joinO h r.by_.length s.by_.length
      · rw [Nat.min_eq_right h12]
      · have hl := joinL_len h r s
        exact fitM_least (fit_of_rec (joinL_bd h r s) (joinL_get h r s) (by omega) hf) (by omega) (by omega)
    rw [e]; rfl
end Go.Proofs.YtfljkcmijnhgkaaDoor
