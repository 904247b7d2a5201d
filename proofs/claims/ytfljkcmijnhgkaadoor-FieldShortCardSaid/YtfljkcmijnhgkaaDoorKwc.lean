/- The reference's Sum and Times: their contracts. -/
import Derived.Test.YtfljkcmijnhgkaaDoorKwb
import Derived.StillTailTactics
namespace Go.Proofs.YtfljkcmijnhgkaaDoor
open Go.RowKit Go.Shelf
set_option linter.unusedSimpArgs false

def refJoinR (h : Nat) (r s : Rule) : Rule × Int := if bothR r s ≠ 0 then (⟨[], []⟩, bothR r s) else madeR (joinL h r s)
/-- Three boxes of a call. -/
theorem box3 (w : World) (x1 y1 x2 y2 x3 y3 : Value) (t : TypeId) : Below w.heap.size w (((w.alloc (.cells #[x1, y1] t)).alloc (.cells #[x2, y2] t)).alloc (.cells #[x3, y3] t)) ∧
    Box2 (((w.alloc (.cells #[x1, y1] t)).alloc (.cells #[x2, y2] t)).alloc (.cells #[x3, y3] t)) w.heap.size x1 y1 ∧ Box2 (((w.alloc (.cells #[x1, y1] t)).alloc (.cells #[x2, y2] t)).alloc (.cells #[x3, y3] t)) (w.heap.size + 1) x2 y2 ∧
    (((w.alloc (.cells #[x1, y1] t)).alloc (.cells #[x2, y2] t)).alloc (.cells #[x3, y3] t)).heap[w.heap.size + 2]? = some (.cells #[x3, y3] t (0, 0)) ∧
    (((w.alloc (.cells #[x1, y1] t)).alloc (.cells #[x2, y2] t)).alloc (.cells #[x3, y3] t)).heap.size = w.heap.size + 3 := by
  obtain ⟨h1, c1, c2, -⟩ := box_new w x1 y1 t
  generalize hW : w.alloc (.cells #[x1, y1] t) = W1 at *
  have s1 : W1.heap.size = w.heap.size + 1 := by rw [← hW]; simp
  obtain ⟨h2, c3, c4, -⟩ := box_new W1 x2 y2 t
  have s2 : (W1.alloc (.cells #[x2, y2] t)).heap.size = w.heap.size + 2 := by simp [s1]
  generalize W1.alloc (.cells #[x2, y2] t) = W2 at *
  have h3 : Below W2.heap.size W2 (W2.alloc (.cells #[x3, y3] t)) := (Below.refl _ _).alloc (Nat.le_refl _) _
  have h4 := heap_alloc_new W2 (.cells #[x3, y3] t)
  rw [s1] at c3 c4
  rw [s2] at h4
  exact ⟨Below.then_ (Below.then_ h1 h2) h3, (Box2.below (Box2.below ⟨c1, c2⟩ h2) h3), Box2.below ⟨c3, c4⟩ h3, h4, by simp [s2]⟩
/-- A list, its first k numbers made anew. -/
def mixP (F : Nat → Int) (a : List Int) (M k : Nat) : List Int := (List.range M).map fun j => if j < k then F j else a.getD j 0
theorem mixP_len (F : Nat → Int) (a : List Int) (M k : Nat) : (mixP F a M k).length = M := by simp [mixP]
theorem mixP_zero (F : Nat → Int) {a : List Int} {M : Nat} (h : a.length = M) : mixP F a M 0 = a := by
  apply List.ext_getElem?; intro j
  simp only [mixP, List.getElem?_map, Nat.not_lt_zero, if_false]
  by_cases hj : j < M
  · rw [List.getElem?_range hj, List.getElem?_eq_getElem (by omega), Option.map_some, List.getD_eq_getElem?_getD, List.getElem?_eq_getElem (by omega)]; rfl
  · rw [List.getElem?_eq_none (by simpa using hj), List.getElem?_eq_none (by omega)]; rfl
theorem mixP_set (F : Nat → Int) (a : List Int) {M k : Nat} (h : k < M) : (mixP F a M k).set k (F k) = mixP F a M (k + 1) := by
  apply List.ext_getElem?; intro j
  rw [List.getElem?_set]
  simp only [mixP, List.getElem?_map, List.length_map, List.length_range]
  by_cases hj : j < M
  · rw [List.getElem?_range hj]
    by_cases e : k = j
    · subst e; simp [h]
    · simp only [if_neg e, Option.map_some]
      by_cases h2 : j < k
      · rw [if_pos h2, if_pos (by omega)]
      · rw [if_neg h2, if_neg (by omega)]
  · rw [List.getElem?_eq_none (l := List.range M) (by simpa using hj), if_neg (by omega)]; rfl
theorem mixP_end (F : Nat → Int) (a : List Int) (M : Nat) : mixP F a M M = (List.range M).map F := by
  unfold mixP
  exact List.map_congr_left fun j hj => if_pos (List.mem_range.1 hj)
theorem mixP_get (F : Nat → Int) (a : List Int) {M k : Nat} (h : k < M) : (mixP F a M k).getD k 0 = a.getD k 0 := by
  rw [mixP, List.getD_eq_getElem?_getD, List.getElem?_map, List.getElem?_range h]; simp
theorem joinT_sum (a b : List Int) (n : Nat) : joinT 0 a b n = (a.getD n 0 + b.getD n 0) % 65521 := rfl
theorem joinT_times (a b : List Int) (n : Nat) : joinT 1 a b n = a.getD n 0 * b.getD n 0 % 65521 := rfl
theorem joinL_bd (h : Nat) (r s : Rule) : ∀ x ∈ joinL h r s, 0 ≤ x ∧ x < 65521 := fun x hx => by
  unfold joinL at hx
  obtain ⟨j, _, rfl⟩ := List.mem_map.1 hx
  exact joinT_bd _ _ _ _
theorem joinL_len (h : Nat) (r s : Rule) : (joinL h r s).length = 2 * joinO h r.by_.length s.by_.length := by simp [joinL]
set_option maxRecDepth 100000 in
set_option maxHeartbeats 6400000 in
theorem refSum_any (r s : Rule) (v u : Value) (w : World) (h : RdR w v r) (h' : RdR w u s) :
    Calls Tryd.prog 36 #[v, u] w (RuleOut (refJoinR 0 r s) w) := by
  have hR := Lib.hid h
  have hS := Lib.hid h'
  obtain ⟨a1, b1, rfl, ra, rb⟩ := h
  obtain ⟨Aa, ca, rfl, -, -⟩ := ra.cell_
  obtain ⟨Ab, cb, rfl, -, -⟩ := rb.cell_
  obtain ⟨a2, b2, rfl, ra', rb'⟩ := h'
  obtain ⟨Ac, cc, rfl, -, -⟩ := ra'.cell_
  obtain ⟨Ad, cd, rfl, -, -⟩ := rb'.cell_
  clear ra rb ra' rb'
  obtain ⟨hbx, B0, B1, hn, hsz⟩ := box3 w (.slice Aa r.by_.length ca) (.slice Ab r.start.length cb) (.slice Ac s.by_.length cc) (.slice Ad s.start.length cd) (.slice none 0 0) (.slice none 0 0) 49
  have hbo := Lib.hid (refBoth_any r s _ _ _ (hR.out.below hbx (Nat.le_refl _)) (hS.out.below hbx (Nat.le_refl _)))
  by_cases h0 : bothR r s = 0
  · have hr : Hid (refJoinR 0 r s = madeR (joinL 0 r s)) := Lib.hid (by rw [refJoinR, if_neg (by simpa using h0)])
    obtain ⟨hr1, hr2⟩ := bothR_ok h0
    obtain ⟨o1, o2, o3, o4⟩ := rightR_ok hr1
    obtain ⟨q1, q2, q3, q4⟩ := rightR_ok hr2
    have hbig : 2 * joinO 0 r.by_.length s.by_.length ≤ 288 := by
      have h1 : r.by_.length * s.by_.length ≤ 12 * 12 := Nat.mul_le_mul o1 q1
      unfold joinO; split <;> omega
    have hfi := Lib.hid (fun n W (hn : n ≤ 1000) (hW : Below w.heap.size w W) => refFirst_any r n _ W (hR.out.below hW (Nat.le_refl _)) hr1 hn)
    have hfs := Lib.hid (fun n W (hn : n ≤ 1000) (hW : Below w.heap.size w W) => refFirst_any s n _ W (hS.out.below hW (Nat.le_refl _)) hr2 hn)
    have hmd := Lib.hid (fun v W hv => refMade_any (joinL 0 r s) v W (by rw [joinL_len]; omega) (joinL_bd _ _ _) hv)
    obtain ⟨M, hM⟩ : ∃ M, M = 2 * joinO 0 r.by_.length s.by_.length := ⟨_, rfl⟩
    have hj : Hid (joinL 0 r s = (List.range M).map (joinT 0 (firstL r M) (firstL s M))) := Lib.hid (by rw [hM]; rfl)
    rw [← hM] at hbig
    have lF := Lib.hid (firstL_len r M)
    have lS := Lib.hid (firstL_len s M)
    have bF := Lib.hid (firstL_bd o4 M)
    have bS := Lib.hid (firstL_bd q4 M)
    replace hfi := Lib.hid (hfi.out M)
    replace hfs := Lib.hid (hfs.out M)
    rw [hj.out] at hmd hr
    rw [h0] at hbo
    have hMn : Hid (∀ na ns, na = r.by_.length → ns = s.by_.length → 2 * (na + ns) = M) := Lib.hid (fun na ns e1 e2 => by rw [hM, e1, e2]; unfold joinO; simp [Nat.mul_assoc])
    clear h0 o2 o3 o4 q2 q3 q4 hR hS hr1 hr2 hj hM
    generalize firstL r M = FR at *
    generalize firstL s M = FS at *
    generalize refJoinR 0 r s = RES at *
    generalize hna : r.by_.length = na at *
    generalize hns : s.by_.length = ns at *
    generalize r.start.length = ma at *
    generalize s.start.length = ms at *
    have e2 : 2 * ((na : Int) + (ns : Int)) = (M : Int) := by have := hMn.out na ns rfl rfl; rw [← this]; simp
    replace e2 := e2
    clear hMn
    replace hna := Lib.hid hna
    replace hns := Lib.hid hns
    obtain ⟨F, hF⟩ : ∃ F : Nat → Int, F = joinT 0 FR FS := ⟨_, rfl⟩
    have hFe : Hid (∀ k, F k = joinT 0 FR FS k) := Lib.hid (fun k => by rw [hF])
    rw [← hF] at hmd hr
    clear hF
    go_enter Tryd.func36, Tryd.ntmps36
    go_wp2_with fail
    generalize ((w.alloc (.cells #[.slice Aa na ca, .slice Ab ma cb] 49)).alloc (.cells #[.slice Ac ns cc, .slice Ad ms cd] 49)).alloc (.cells #[.slice none 0 0, .slice none 0 0] 49) = X at *
    refine hbo.out.mono ?_; rintro e W1 ⟨rfl, hB1⟩
    have HG : Hid (∀ W, Below X.heap.size X W → W.heap[w.heap.size + 2]? = some (.cells #[.slice none 0 0, .slice none 0 0] 49 (0, 0))) := Lib.hid (fun W hW => (hW.block (w.heap.size + 2) (by omega)).trans hn)
    replace B0 := B0.below hB1
    replace B1 := B1.below hB1
    have tX := Lib.hid hB1
    replace hbx := Lib.hid hbx
    obtain ⟨c0, c1⟩ := id B0
    obtain ⟨c2, c3⟩ := id B1
    have hzW := hB1.size
    clear hn hbo hB1
    go_wp2
    refine D_begin (fun w' => Box2 w' w.heap.size (.slice Aa na ca) (.slice Ab ma cb) ∧ Box2 w' (w.heap.size + 1) (.slice Ac ns cc) (.slice Ad ms cd)) (fun _ => True) 99 (by kernel_rfl) ?_
    change wpAnyD _ _ _ _ _ _ _ _ _ _ W1.drew
    simp only [List.size_toArray, List.length_cons, List.length_nil, Nat.reduceAdd, Array.replicate_succ, Array.replicate_zero, List.push_toArray, List.append_toArray, List.nil_append, List.cons_append]
    replace B0 : Box2 W1.drew w.heap.size (.slice Aa na ca) (.slice Ab ma cb) := B0
    replace B1 : Box2 W1.drew (w.heap.size + 1) (.slice Ac ns cc) (.slice Ad ms cd) := B1
    replace tX := Lib.hid tX.out.drew
    have hzd : X.heap.size ≤ W1.drew.heap.size := hzW
    clear c0 c1 c2 c3 hzW
    generalize W1.drew = Wd at *
    refine D_take (i := 0) (v := ?_) rfl (by kernel_rfl) (by kernel_rfl) (by kernel_rfl) (by kernel_rfl) (fun _ _ _ h => h) (Or.inl ⟨by rfl, ?_⟩) ⟨B0, B1⟩ (fun _ => trivial) ?_
    rotate_left; · intro w1 hw1; obtain ⟨⟨hw1, hw2⟩, ⟨hw3, hw4⟩⟩ := hw1; go_simp; try with_reducible rfl
    try simp only [Act.put, List.getElem_toArray, List.getElem_cons_zero, List.getElem_cons_succ, List.setIfInBounds_toArray, List.set_cons_zero, List.set_cons_succ]
    refine D_take (i := 1) (v := ?_) rfl (by kernel_rfl) (by kernel_rfl) (by kernel_rfl) (by kernel_rfl) (fun _ _ _ h => h) (Or.inl ⟨by rfl, ?_⟩) ⟨B0, B1⟩ (fun _ => trivial) ?_
    rotate_left; · intro w1 hw1; obtain ⟨⟨hw1, hw2⟩, ⟨hw3, hw4⟩⟩ := hw1; go_simp; try with_reducible rfl
    try simp only [Act.put, List.getElem_toArray, List.getElem_cons_zero, List.getElem_cons_succ, List.setIfInBounds_toArray, List.set_cons_zero, List.set_cons_succ]
    refine D_take (i := 3) (v := ?_) rfl (by kernel_rfl) (by kernel_rfl) (by kernel_rfl) (by kernel_rfl) (fun _ _ _ h => h) (Or.inl ⟨by rfl, ?_⟩) ⟨B0, B1⟩ (fun _ => trivial) ?_
    rotate_left; · intro w1 hw1; obtain ⟨⟨hw1, hw2⟩, ⟨hw3, hw4⟩⟩ := hw1; go_simp; try with_reducible rfl
    try simp only [Act.put, List.getElem_toArray, List.getElem_cons_zero, List.getElem_cons_succ, List.setIfInBounds_toArray, List.set_cons_zero, List.set_cons_succ]
    refine D_take (i := 4) (v := ?_) rfl (by kernel_rfl) (by kernel_rfl) (by kernel_rfl) (by kernel_rfl) (fun _ _ _ h => h) (Or.inl ⟨by rfl, ?_⟩) ⟨B0, B1⟩ (fun _ => trivial) ?_
    rotate_left; · intro w1 hw1; obtain ⟨⟨hw1, hw2⟩, ⟨hw3, hw4⟩⟩ := hw1; go_simp; try with_reducible rfl
    try simp only [Act.put, List.getElem_toArray, List.getElem_cons_zero, List.getElem_cons_succ, List.setIfInBounds_toArray, List.set_cons_zero, List.set_cons_succ]
    refine D_one (i := 2) (by kernel_rfl) rfl ?_
    intro K hK
    rw [if_pos (by rfl)]
    go_wp2_with fail
    refine (hfi.out Wd (by omega) (Below.then_ hbx.out tX.out)).mono ?_; rintro e W4 ⟨⟨av, rfl, oa⟩, hN_W4⟩
    replace B0 := B0.below hN_W4
    replace B1 := B1.below hN_W4
    replace tX := Lib.hid (Below.then_ tX.out hN_W4)
    have z_W4 := hN_W4.size; clear hN_W4
    refine hK _ _ ⟨B0, B1⟩ (fun _ _ => trivial) ?_
    clear hK K
    try simp only [Act.put, List.getElem_toArray, List.getElem_cons_zero, List.getElem_cons_succ, List.setIfInBounds_toArray, List.set_cons_zero, List.set_cons_succ]
    replace oa := Lib.hid oa
    have ga : Hid (∀ q, av.ownBlock = some q → Wd.heap.size ≤ q ∧ q < W4.heap.size) := Lib.hid (fun q hq => by have := oa.out; unfold OwnI at this; exact this.lt q hq)
    refine D_one (i := 5) (by kernel_rfl) rfl ?_
    intro K hK
    rw [if_pos (by rfl)]
    go_wp2_with fail
    refine (hfs.out W4 (by omega) (Below.then_ hbx.out tX.out)).mono ?_; rintro e W5 ⟨⟨bv, rfl, ob⟩, hN_W5⟩
    replace B0 := B0.below hN_W5
    replace B1 := B1.below hN_W5
    replace tX := Lib.hid (Below.then_ tX.out hN_W5)
    replace oa := Lib.hid (oa.out.below hN_W5)
    have z_W5 := hN_W5.size; clear hN_W5
    refine hK _ _ ⟨B0, B1⟩ (fun _ _ => trivial) ?_
    clear hK K
    try simp only [Act.put, List.getElem_toArray, List.getElem_cons_zero, List.getElem_cons_succ, List.setIfInBounds_toArray, List.set_cons_zero, List.set_cons_succ]
    refine D_take (i := 6) (v := ?_) rfl (by kernel_rfl) (by kernel_rfl) (by kernel_rfl) (by kernel_rfl) (fun _ _ _ h => h) (Or.inl ⟨by rfl, ?_⟩) ⟨B0, B1⟩ (fun _ => trivial) ?_
    rotate_left; · intro w1 hw1; go_simp; try with_reducible rfl
    try simp only [Act.put, List.getElem_toArray, List.getElem_cons_zero, List.getElem_cons_succ, List.setIfInBounds_toArray, List.set_cons_zero, List.set_cons_succ]
    refine D_take (i := 7) (v := ?_) rfl (by kernel_rfl) (by kernel_rfl) (by kernel_rfl) (by kernel_rfl) (fun _ _ _ h => h) (Or.inl ⟨by rfl, ?_⟩) ⟨B0, B1⟩ (fun _ => trivial) ?_
    rotate_left; · intro w1 hw1; go_simp; try with_reducible rfl
    try simp only [Act.put, List.getElem_toArray, List.getElem_cons_zero, List.getElem_cons_succ, List.setIfInBounds_toArray, List.set_cons_zero, List.set_cons_succ]
    refine D_done (by kernel_rfl) ?_ _
    obtain ⟨A, c, rfl⟩ : ∃ A c, av = .slice A M c := by have := oa.out; unfold OwnI at this; rw [lF.out] at this; exact own_form this
    obtain ⟨B, d, rfl⟩ : ∃ A c, bv = .slice A M c := by have := ob; unfold OwnI at this; rw [lS.out] at this; exact own_form this
    have hg : ∃ g, w.heap.size + 3 ≤ g ∧ Hid (0 < M → A = some ⟨g, 0, none⟩ ∧ g < W4.heap.size) ∧ g ≤ W5.heap.size := by
      rcases Nat.eq_zero_or_pos M with hM | hM
      · exact ⟨W4.heap.size, by omega, Lib.hid (fun h => by omega), z_W5⟩
      · have h := oa.out
        unfold OwnI at h
        rw [lF.out] at h
        obtain ⟨g, c', e, g1, g2⟩ := h.form hM
        simp only [Value.slice.injEq, true_and] at e
        obtain ⟨rfl, -⟩ := e
        have := ga.out g rfl
        exact ⟨g, by omega, Lib.hid (fun _ => ⟨rfl, this.2⟩), by omega⟩
    obtain ⟨g, hg3, hgA, hg5⟩ := hg
    have oa0 : Hid (OwnI W5 w.heap.size (.slice A M c) (mixP F FR M 0)) := Lib.hid (by rw [mixP_zero F lF.out]; exact oa.out.base (by omega))
    have ob5 := Lib.hid ob
    replace tX := Lib.hid tX.out
    clear oa ob B0 B1 ga hfi hfs
    go_wp2
    go_loopw [10] (fun ii wr => ∃ k : Nat, k ≤ M ∧ ii = .int .i64 k ∧ Hid (Btw g (g + 1) W5 wr) ∧ Hid (OwnI wr w.heap.size (.slice A M c) (mixP F FR M k))) (fun ii _ => M - (intOf ii).toNat)
    case atStart => exact ⟨0, Nat.zero_le _, rfl, Lib.hid (Btw.refl _ _ _), oa0⟩
    case round =>
      obtain ⟨k, hk, rfl, hBt, hX⟩ := hrel
      by_cases hlt : k < M
      · obtain ⟨rfl, g4⟩ := hgA.out (by omega)
        obtain ⟨hxc, hxf⟩ := hX.out.num (k := k) (by rw [mixP_len]; exact hlt)
        rw [mixP_get F FR hlt] at hxc
        have hrb := ((hBt.out.ownI ob5.out (by omega)).rd (by rw [lS.out]; omega)).open_
        obtain ⟨B', d', e, -, -, hcb⟩ := hrb
        rw [lS.out] at e hcb
        simp only [Value.slice.injEq, true_and] at e
        obtain ⟨rfl, rfl⟩ := e
        obtain ⟨bb, ob2, rfl, hcb2⟩ := hcb k hlt
        have hput := (hX.out.below ((Below.refl wr.heap.size wr).drew)).put k (F k)
        rw [mixP_set F FR hlt, hFe.out k, joinT_sum] at hput
        have bf := bF.out (FR.getD k 0) (by rw [List.getD_eq_getElem?_getD, List.getElem?_eq_getElem (by rw [lF.out]; exact hlt)]; exact List.getElem_mem _)
        have bs := bS.out (FS.getD k 0) (by rw [List.getD_eq_getElem?_getD, List.getElem?_eq_getElem (by rw [lS.out]; exact hlt)]; exact List.getElem_mem _)
        have hB3 : ∀ z, Hid (Btw g (g + 1) W5 (wr.drew.setCell ⟨g, k, none⟩ z)) := fun z => Lib.hid (hBt.out.trans ⟨rfl, rfl, rfl, by simp [World.setCell], fun q _ hq => Below.heap_setCell _ _ _ _ (by show q ≠ g; omega)⟩)
        replace hput := Lib.hid hput
        clear hcb hX hBt
        generalize FR.getD k 0 = x at *
        generalize FS.getD k 0 = y at *
        have m0 := mul_bd bf.1 bf.2 bs.1 bs.2
        have w4 : IntKind.i64.wrap (x + y) = x + y := IntWalk.i64_in _ ⟨by omega, by omega⟩
        have w6 : (x + y).tmod 65521 = (x + y) % 65521 := Int.tmod_eq_emod_of_nonneg (by omega)
        have k1 : (k : Int) < (M : Int) := by omega
        have k0 : (0 : Int) ≤ (k : Int) := by omega
        clear m0
        go_wp2
        go_still_tail 13, (by kernel_rfl)
        change wpList _ _ _ _ _ wr.drew
        replace hxc : wr.drew.cell? _ = _ := hxc
        replace hxf : wr.drew.frozen? _ = _ := hxf
        clear hcb2
        generalize wr.drew = wd at hxc hxf hput hB3 ⊢
        go_wp2
        go_roundw
        case rel => exact ⟨k + 1, by omega, by go_num, hB3 _, hput⟩
        case measure => simp [intOf] <;> omega
      · obtain rfl : M = k := by omega
        rw [mixP_end] at hX
        have hBd : Hid (Below W5.heap.size W5 W5) := Lib.hid (Below.refl _ _)
        have htw := Lib.hid (((Below.then_ hbx.out tX.out).trans ((hBt.out.below hg5).mono (by omega))))
        have hgb : wr.heap[w.heap.size + 2]? = some (.cells #[.slice none 0 0, .slice none 0 0] 49 (0, 0)) := (hBt.out.block _ (by have := tX.out.size; omega) (.inl (by omega))).trans (HG.out _ tX.out)
        have hs := Lib.hid (hmd.out _ wr (hX.out.rd (by simp; omega)))
        unfold RuleOut at hs
        go_wp2_with fail
        refine hs.out.mono ?_; rintro e W7 ⟨vr, rfl, oR, hB7⟩
        change OwnR _ _ _ _ at oR
        obtain ⟨rA, rn, rc, rB, rm, rd, rfl⟩ := oR.shape
        have hgE := (hB7.block _ (lt_of_block hgb)).trans hgb
        obtain ⟨p0, p1, p2, p3⟩ := ret_cell hgE
        have hzz := htw.out.size
        have hT := Lib.hid (Below.then_ htw.out hB7)
        have hRE := Lib.hid (own_kept oR hzz (fun _ _ _ => rfl))
        replace hgE := Lib.hid hgE
        clear hgb hB7 oR hs
        go_wp2
        refine bodyPost_ret (res_ct rfl _ _ (w.heap.size + 2) 49 #[.slice rA rn rc, .slice rB rm rd] (0, 0) _ rfl (heap_set2 _ _ hgE.out) rfl rfl rfl) rfl ?_
        rw [hr.out]
        exact ⟨_, rfl, own_apart hRE.out hgE.out, (hT.out.setCell (p := ⟨w.heap.size + 2, 0, none⟩) (by simp) _).setCell (p := ⟨w.heap.size + 2, 1, none⟩) (by simp) _⟩
  · have hr : Hid (refJoinR 0 r s = (⟨[], []⟩, bothR r s)) := Lib.hid (by rw [refJoinR, if_pos h0])
    have hne : (bothR r s != 0) = true := by rw [bne_iff_ne]; exact h0
    generalize bothR r s = x at *
    clear hR hS h0
    generalize refJoinR 0 r s = RES at *
    generalize r.by_.length = na at *
    generalize s.by_.length = ns at *
    generalize r.start.length = ma at *
    generalize s.start.length = ms at *
    go_enter Tryd.func36, Tryd.ntmps36
    go_wp2_with fail
    generalize ((w.alloc (.cells #[.slice Aa na ca, .slice Ab ma cb] 49)).alloc (.cells #[.slice Ac ns cc, .slice Ad ms cd] 49)).alloc (.cells #[.slice none 0 0, .slice none 0 0] 49) = X at *
    refine hbo.out.mono ?_; rintro e W1 ⟨rfl, hB1⟩
    have hB2 := Below.then_ hbx hB1
    have hg2 := (hB1.block (w.heap.size + 2) (by omega)).trans hn
    obtain ⟨p0, p1, p2, p3⟩ := ret_cell hg2
    clear hn hsz hbx
    go_wp2
    refine bodyPost_ret (res_ct rfl _ _ (w.heap.size + 2) 49 #[.slice none 0 0, .slice none 0 0] (0, 0) _ rfl (heap_set2 _ _ hg2) rfl rfl rfl) rfl ?_
    rw [hr.out]
    exact ⟨_, rfl, ⟨_, _, rfl, OwnI_nil _ _, OwnI_nil _ _⟩, (hB2.setCell (p := ⟨w.heap.size + 2, 0, none⟩) (by simp) _).setCell (p := ⟨w.heap.size + 2, 1, none⟩) (by simp) _⟩
set_option maxRecDepth 100000 in
set_option maxHeartbeats 6400000 in
theorem refTimes_any (r s : Rule) (v u : Value) (w : World) (h : RdR w v r) (h' : RdR w u s) :
    Calls Tryd.prog 37 #[v, u] w (RuleOut (refJoinR 1 r s) w) := by
  have hR := Lib.hid h
  have hS := Lib.hid h'
  obtain ⟨a1, b1, rfl, ra, rb⟩ := h
  obtain ⟨Aa, ca, rfl, -, -⟩ := ra.cell_
  obtain ⟨Ab, cb, rfl, -, -⟩ := rb.cell_
  obtain ⟨a2, b2, rfl, ra', rb'⟩ := h'
  obtain ⟨Ac, cc, rfl, -, -⟩ := ra'.cell_
  obtain ⟨Ad, cd, rfl, -, -⟩ := rb'.cell_
  clear ra rb ra' rb'
  obtain ⟨hbx, B0, B1, hn, hsz⟩ := box3 w (.slice Aa r.by_.length ca) (.slice Ab r.start.length cb) (.slice Ac s.by_.length cc) (.slice Ad s.start.length cd) (.slice none 0 0) (.slice none 0 0) 49
  have hbo := Lib.hid (refBoth_any r s _ _ _ (hR.out.below hbx (Nat.le_refl _)) (hS.out.below hbx (Nat.le_refl _)))
  by_cases h0 : bothR r s = 0
  · have hr : Hid (refJoinR 1 r s = madeR (joinL 1 r s)) := Lib.hid (by rw [refJoinR, if_neg (by simpa using h0)])
    obtain ⟨hr1, hr2⟩ := bothR_ok h0
    obtain ⟨o1, o2, o3, o4⟩ := rightR_ok hr1
    obtain ⟨q1, q2, q3, q4⟩ := rightR_ok hr2
    have hbig : 2 * joinO 1 r.by_.length s.by_.length ≤ 288 := by
      have h1 : r.by_.length * s.by_.length ≤ 12 * 12 := Nat.mul_le_mul o1 q1
      unfold joinO; split <;> omega
    have hfi := Lib.hid (fun n W (hn : n ≤ 1000) (hW : Below w.heap.size w W) => refFirst_any r n _ W (hR.out.below hW (Nat.le_refl _)) hr1 hn)
    have hfs := Lib.hid (fun n W (hn : n ≤ 1000) (hW : Below w.heap.size w W) => refFirst_any s n _ W (hS.out.below hW (Nat.le_refl _)) hr2 hn)
    have hmd := Lib.hid (fun v W hv => refMade_any (joinL 1 r s) v W (by rw [joinL_len]; omega) (joinL_bd _ _ _) hv)
    obtain ⟨M, hM⟩ : ∃ M, M = 2 * joinO 1 r.by_.length s.by_.length := ⟨_, rfl⟩
    have hj : Hid (joinL 1 r s = (List.range M).map (joinT 1 (firstL r M) (firstL s M))) := Lib.hid (by rw [hM]; rfl)
    rw [← hM] at hbig
    have lF := Lib.hid (firstL_len r M)
    have lS := Lib.hid (firstL_len s M)
    have bF := Lib.hid (firstL_bd o4 M)
    have bS := Lib.hid (firstL_bd q4 M)
    replace hfi := Lib.hid (hfi.out M)
    replace hfs := Lib.hid (hfs.out M)
    rw [hj.out] at hmd hr
    rw [h0] at hbo
    have hMn : Hid (∀ na ns, na = r.by_.length → ns = s.by_.length → 2 * na * ns = M) := Lib.hid (fun na ns e1 e2 => by rw [hM, e1, e2]; unfold joinO; simp [Nat.mul_assoc])
    clear h0 o2 o3 o4 q2 q3 q4 hR hS hr1 hr2 hj hM
    generalize firstL r M = FR at *
    generalize firstL s M = FS at *
    generalize refJoinR 1 r s = RES at *
    generalize hna : r.by_.length = na at *
    generalize hns : s.by_.length = ns at *
    generalize r.start.length = ma at *
    generalize s.start.length = ms at *
    have e2 : 2 * (na : Int) * (ns : Int) = (M : Int) := by have := hMn.out na ns rfl rfl; rw [← this]; simp
    replace e2 := e2
    clear hMn
    replace hna := Lib.hid hna
    replace hns := Lib.hid hns
    obtain ⟨F, hF⟩ : ∃ F : Nat → Int, F = joinT 1 FR FS := ⟨_, rfl⟩
    have hFe : Hid (∀ k, F k = joinT 1 FR FS k) := Lib.hid (fun k => by rw [hF])
    rw [← hF] at hmd hr
    clear hF
    go_enter Tryd.func37, Tryd.ntmps37
    go_wp2_with fail
    generalize ((w.alloc (.cells #[.slice Aa na ca, .slice Ab ma cb] 49)).alloc (.cells #[.slice Ac ns cc, .slice Ad ms cd] 49)).alloc (.cells #[.slice none 0 0, .slice none 0 0] 49) = X at *
    refine hbo.out.mono ?_; rintro e W1 ⟨rfl, hB1⟩
    have HG : Hid (∀ W, Below X.heap.size X W → W.heap[w.heap.size + 2]? = some (.cells #[.slice none 0 0, .slice none 0 0] 49 (0, 0))) := Lib.hid (fun W hW => (hW.block (w.heap.size + 2) (by omega)).trans hn)
    replace B0 := B0.below hB1
    replace B1 := B1.below hB1
    have tX := Lib.hid hB1
    replace hbx := Lib.hid hbx
    obtain ⟨c0, c1⟩ := id B0
    obtain ⟨c2, c3⟩ := id B1
    have hzW := hB1.size
    clear hn hbo hB1
    go_wp2
    refine D_begin (fun w' => Box2 w' w.heap.size (.slice Aa na ca) (.slice Ab ma cb) ∧ Box2 w' (w.heap.size + 1) (.slice Ac ns cc) (.slice Ad ms cd)) (fun _ => True) 99 (by kernel_rfl) ?_
    change wpAnyD _ _ _ _ _ _ _ _ _ _ W1.drew
    simp only [List.size_toArray, List.length_cons, List.length_nil, Nat.reduceAdd, Array.replicate_succ, Array.replicate_zero, List.push_toArray, List.append_toArray, List.nil_append, List.cons_append]
    replace B0 : Box2 W1.drew w.heap.size (.slice Aa na ca) (.slice Ab ma cb) := B0
    replace B1 : Box2 W1.drew (w.heap.size + 1) (.slice Ac ns cc) (.slice Ad ms cd) := B1
    replace tX := Lib.hid tX.out.drew
    have hzd : X.heap.size ≤ W1.drew.heap.size := hzW
    clear c0 c1 c2 c3 hzW
    generalize W1.drew = Wd at *
    refine D_take (i := 0) (v := ?_) rfl (by kernel_rfl) (by kernel_rfl) (by kernel_rfl) (by kernel_rfl) (fun _ _ _ h => h) (Or.inl ⟨by rfl, ?_⟩) ⟨B0, B1⟩ (fun _ => trivial) ?_
    rotate_left; · intro w1 hw1; obtain ⟨⟨hw1, hw2⟩, ⟨hw3, hw4⟩⟩ := hw1; go_simp; try with_reducible rfl
    try simp only [Act.put, List.getElem_toArray, List.getElem_cons_zero, List.getElem_cons_succ, List.setIfInBounds_toArray, List.set_cons_zero, List.set_cons_succ]
    refine D_take (i := 1) (v := ?_) rfl (by kernel_rfl) (by kernel_rfl) (by kernel_rfl) (by kernel_rfl) (fun _ _ _ h => h) (Or.inl ⟨by rfl, ?_⟩) ⟨B0, B1⟩ (fun _ => trivial) ?_
    rotate_left; · intro w1 hw1; obtain ⟨⟨hw1, hw2⟩, ⟨hw3, hw4⟩⟩ := hw1; go_simp; try with_reducible rfl
    try simp only [Act.put, List.getElem_toArray, List.getElem_cons_zero, List.getElem_cons_succ, List.setIfInBounds_toArray, List.set_cons_zero, List.set_cons_succ]
    refine D_take (i := 3) (v := ?_) rfl (by kernel_rfl) (by kernel_rfl) (by kernel_rfl) (by kernel_rfl) (fun _ _ _ h => h) (Or.inl ⟨by rfl, ?_⟩) ⟨B0, B1⟩ (fun _ => trivial) ?_
    rotate_left; · intro w1 hw1; obtain ⟨⟨hw1, hw2⟩, ⟨hw3, hw4⟩⟩ := hw1; go_simp; try with_reducible rfl
    try simp only [Act.put, List.getElem_toArray, List.getElem_cons_zero, List.getElem_cons_succ, List.setIfInBounds_toArray, List.set_cons_zero, List.set_cons_succ]
    refine D_take (i := 4) (v := ?_) rfl (by kernel_rfl) (by kernel_rfl) (by kernel_rfl) (by kernel_rfl) (fun _ _ _ h => h) (Or.inl ⟨by rfl, ?_⟩) ⟨B0, B1⟩ (fun _ => trivial) ?_
    rotate_left; · intro w1 hw1; obtain ⟨⟨hw1, hw2⟩, ⟨hw3, hw4⟩⟩ := hw1; go_simp; try with_reducible rfl
    try simp only [Act.put, List.getElem_toArray, List.getElem_cons_zero, List.getElem_cons_succ, List.setIfInBounds_toArray, List.set_cons_zero, List.set_cons_succ]
    refine D_one (i := 2) (by kernel_rfl) rfl ?_
    intro K hK
    rw [if_pos (by rfl)]
    go_wp2_with fail
    refine (hfi.out Wd (by omega) (Below.then_ hbx.out tX.out)).mono ?_; rintro e W4 ⟨⟨av, rfl, oa⟩, hN_W4⟩
    replace B0 := B0.below hN_W4
    replace B1 := B1.below hN_W4
    replace tX := Lib.hid (Below.then_ tX.out hN_W4)
    have z_W4 := hN_W4.size; clear hN_W4
    refine hK _ _ ⟨B0, B1⟩ (fun _ _ => trivial) ?_
    clear hK K
    try simp only [Act.put, List.getElem_toArray, List.getElem_cons_zero, List.getElem_cons_succ, List.setIfInBounds_toArray, List.set_cons_zero, List.set_cons_succ]
    replace oa := Lib.hid oa
    have ga : Hid (∀ q, av.ownBlock = some q → Wd.heap.size ≤ q ∧ q < W4.heap.size) := Lib.hid (fun q hq => by have := oa.out; unfold OwnI at this; exact this.lt q hq)
    refine D_one (i := 5) (by kernel_rfl) rfl ?_
    intro K hK
    rw [if_pos (by rfl)]
    go_wp2_with fail
    refine (hfs.out W4 (by omega) (Below.then_ hbx.out tX.out)).mono ?_; rintro e W5 ⟨⟨bv, rfl, ob⟩, hN_W5⟩
    replace B0 := B0.below hN_W5
    replace B1 := B1.below hN_W5
    replace tX := Lib.hid (Below.then_ tX.out hN_W5)
    replace oa := Lib.hid (oa.out.below hN_W5)
    have z_W5 := hN_W5.size; clear hN_W5
    refine hK _ _ ⟨B0, B1⟩ (fun _ _ => trivial) ?_
    clear hK K
    try simp only [Act.put, List.getElem_toArray, List.getElem_cons_zero, List.getElem_cons_succ, List.setIfInBounds_toArray, List.set_cons_zero, List.set_cons_succ]
    refine D_take (i := 6) (v := ?_) rfl (by kernel_rfl) (by kernel_rfl) (by kernel_rfl) (by kernel_rfl) (fun _ _ _ h => h) (Or.inl ⟨by rfl, ?_⟩) ⟨B0, B1⟩ (fun _ => trivial) ?_
    rotate_left; · intro w1 hw1; go_simp; try with_reducible rfl
    try simp only [Act.put, List.getElem_toArray, List.getElem_cons_zero, List.getElem_cons_succ, List.setIfInBounds_toArray, List.set_cons_zero, List.set_cons_succ]
    refine D_take (i := 7) (v := ?_) rfl (by kernel_rfl) (by kernel_rfl) (by kernel_rfl) (by kernel_rfl) (fun _ _ _ h => h) (Or.inl ⟨by rfl, ?_⟩) ⟨B0, B1⟩ (fun _ => trivial) ?_
    rotate_left; · intro w1 hw1; go_simp; try with_reducible rfl
    try simp only [Act.put, List.getElem_toArray, List.getElem_cons_zero, List.getElem_cons_succ, List.setIfInBounds_toArray, List.set_cons_zero, List.set_cons_succ]
    refine D_done (by kernel_rfl) ?_ _
    obtain ⟨A, c, rfl⟩ : ∃ A c, av = .slice A M c := by have := oa.out; unfold OwnI at this; rw [lF.out] at this; exact own_form this
    obtain ⟨B, d, rfl⟩ : ∃ A c, bv = .slice A M c := by have := ob; unfold OwnI at this; rw [lS.out] at this; exact own_form this
    have hg : ∃ g, w.heap.size + 3 ≤ g ∧ Hid (0 < M → A = some ⟨g, 0, none⟩ ∧ g < W4.heap.size) ∧ g ≤ W5.heap.size := by
      rcases Nat.eq_zero_or_pos M with hM | hM
      · exact ⟨W4.heap.size, by omega, Lib.hid (fun h => by omega), z_W5⟩
      · have h := oa.out
        unfold OwnI at h
        rw [lF.out] at h
        obtain ⟨g, c', e, g1, g2⟩ := h.form hM
        simp only [Value.slice.injEq, true_and] at e
        obtain ⟨rfl, -⟩ := e
        have := ga.out g rfl
        exact ⟨g, by omega, Lib.hid (fun _ => ⟨rfl, this.2⟩), by omega⟩
    obtain ⟨g, hg3, hgA, hg5⟩ := hg
    have oa0 : Hid (OwnI W5 w.heap.size (.slice A M c) (mixP F FR M 0)) := Lib.hid (by rw [mixP_zero F lF.out]; exact oa.out.base (by omega))
    have ob5 := Lib.hid ob
    replace tX := Lib.hid tX.out
    clear oa ob B0 B1 ga hfi hfs
    go_wp2
    go_loopw [10] (fun ii wr => ∃ k : Nat, k ≤ M ∧ ii = .int .i64 k ∧ Hid (Btw g (g + 1) W5 wr) ∧ Hid (OwnI wr w.heap.size (.slice A M c) (mixP F FR M k))) (fun ii _ => M - (intOf ii).toNat)
    case atStart => exact ⟨0, Nat.zero_le _, rfl, Lib.hid (Btw.refl _ _ _), oa0⟩
    case round =>
      obtain ⟨k, hk, rfl, hBt, hX⟩ := hrel
      by_cases hlt : k < M
      · obtain ⟨rfl, g4⟩ := hgA.out (by omega)
        obtain ⟨hxc, hxf⟩ := hX.out.num (k := k) (by rw [mixP_len]; exact hlt)
        rw [mixP_get F FR hlt] at hxc
        have hrb := ((hBt.out.ownI ob5.out (by omega)).rd (by rw [lS.out]; omega)).open_
        obtain ⟨B', d', e, -, -, hcb⟩ := hrb
        rw [lS.out] at e hcb
        simp only [Value.slice.injEq, true_and] at e
        obtain ⟨rfl, rfl⟩ := e
        obtain ⟨bb, ob2, rfl, hcb2⟩ := hcb k hlt
        have hput := (hX.out.below ((Below.refl wr.heap.size wr).drew)).put k (F k)
        rw [mixP_set F FR hlt, hFe.out k, joinT_times] at hput
        have bf := bF.out (FR.getD k 0) (by rw [List.getD_eq_getElem?_getD, List.getElem?_eq_getElem (by rw [lF.out]; exact hlt)]; exact List.getElem_mem _)
        have bs := bS.out (FS.getD k 0) (by rw [List.getD_eq_getElem?_getD, List.getElem?_eq_getElem (by rw [lS.out]; exact hlt)]; exact List.getElem_mem _)
        have hB3 : ∀ z, Hid (Btw g (g + 1) W5 (wr.drew.setCell ⟨g, k, none⟩ z)) := fun z => Lib.hid (hBt.out.trans ⟨rfl, rfl, rfl, by simp [World.setCell], fun q _ hq => Below.heap_setCell _ _ _ _ (by show q ≠ g; omega)⟩)
        replace hput := Lib.hid hput
        clear hcb hX hBt
        generalize FR.getD k 0 = x at *
        generalize FS.getD k 0 = y at *
        have m0 := mul_bd bf.1 bf.2 bs.1 bs.2
        have w4 : IntKind.i64.wrap (x * y) = x * y := IntWalk.i64_in _ ⟨by omega, by omega⟩
        have w6 : (x * y).tmod 65521 = (x * y) % 65521 := Int.tmod_eq_emod_of_nonneg (by omega)
        have k1 : (k : Int) < (M : Int) := by omega
        have k0 : (0 : Int) ≤ (k : Int) := by omega
        clear m0
        go_wp2
        go_still_tail 13, (by kernel_rfl)
        change wpList _ _ _ _ _ wr.drew
        replace hxc : wr.drew.cell? _ = _ := hxc
        replace hxf : wr.drew.frozen? _ = _ := hxf
        clear hcb2
        generalize wr.drew = wd at hxc hxf hput hB3 ⊢
        go_wp2
        go_roundw
        case rel => exact ⟨k + 1, by omega, by go_num, hB3 _, hput⟩
        case measure => simp [intOf] <;> omega
      · obtain rfl : M = k := by omega
        rw [mixP_end] at hX
        have hBd : Hid (Below W5.heap.size W5 W5) := Lib.hid (Below.refl _ _)
        have htw := Lib.hid (((Below.then_ hbx.out tX.out).trans ((hBt.out.below hg5).mono (by omega))))
        have hgb : wr.heap[w.heap.size + 2]? = some (.cells #[.slice none 0 0, .slice none 0 0] 49 (0, 0)) := (hBt.out.block _ (by have := tX.out.size; omega) (.inl (by omega))).trans (HG.out _ tX.out)
        have hs := Lib.hid (hmd.out _ wr (hX.out.rd (by simp; omega)))
        unfold RuleOut at hs
        go_wp2_with fail
        refine hs.out.mono ?_; rintro e W7 ⟨vr, rfl, oR, hB7⟩
        change OwnR _ _ _ _ at oR
        obtain ⟨rA, rn, rc, rB, rm, rd, rfl⟩ := oR.shape
        have hgE := (hB7.block _ (lt_of_block hgb)).trans hgb
        obtain ⟨p0, p1, p2, p3⟩ := ret_cell hgE
        have hzz := htw.out.size
        have hT := Lib.hid (Below.then_ htw.out hB7)
        have hRE := Lib.hid (own_kept oR hzz (fun _ _ _ => rfl))
        replace hgE := Lib.hid hgE
        clear hgb hB7 oR hs
        go_wp2
        refine bodyPost_ret (res_ct rfl _ _ (w.heap.size + 2) 49 #[.slice rA rn rc, .slice rB rm rd] (0, 0) _ rfl (heap_set2 _ _ hgE.out) rfl rfl rfl) rfl ?_
        rw [hr.out]
        exact ⟨_, rfl, own_apart hRE.out hgE.out, (hT.out.setCell (p := ⟨w.heap.size + 2, 0, none⟩) (by simp) _).setCell (p := ⟨w.heap.size + 2, 1, none⟩) (by simp) _⟩
  · have hr : Hid (refJoinR 1 r s = (⟨[], []⟩, bothR r s)) := Lib.hid (by rw [refJoinR, if_pos h0])
    have hne : (bothR r s != 0) = true := by rw [bne_iff_ne]; exact h0
    generalize bothR r s = x at *
    clear hR hS h0
    generalize refJoinR 1 r s = RES at *
    generalize r.by_.length = na at *
    generalize s.by_.length = ns at *
    generalize r.start.length = ma at *
    generalize s.start.length = ms at *
    go_enter Tryd.func37, Tryd.ntmps37
    go_wp2_with fail
    generalize ((w.alloc (.cells #[.slice Aa na ca, .slice Ab ma cb] 49)).alloc (.cells #[.slice Ac ns cc, .slice Ad ms cd] 49)).alloc (.cells #[.slice none 0 0, .slice none 0 0] 49) = X at *
    refine hbo.out.mono ?_; rintro e W1 ⟨rfl, hB1⟩
    have hB2 := Below.then_ hbx hB1
    have hg2 := (hB1.block (w.heap.size + 2) (by omega)).trans hn
    obtain ⟨p0, p1, p2, p3⟩ := ret_cell hg2
    clear hn hsz hbx
    go_wp2
    refine bodyPost_ret (res_ct rfl _ _ (w.heap.size + 2) 49 #[.slice none 0 0, .slice none 0 0] (0, 0) _ rfl (heap_set2 _ _ hg2) rfl rfl rfl) rfl ?_
    rw [hr.out]
    exact ⟨_, rfl, ⟨_, _, rfl, OwnI_nil _ _, OwnI_nil _ _⟩, (hB2.setCell (p := ⟨w.heap.size + 2, 0, none⟩) (by simp) _).setCell (p := ⟨w.heap.size + 2, 1, none⟩) (by simp) _⟩
end Go.Proofs.YtfljkcmijnhgkaaDoor
