/- FieldTogether: its contract. -/
import Derived.Test.YtfljkcmijnhgkaaDoorKz
import Derived.Test.YtfljkcmijnhgkaaDoorKx
namespace Go.Proofs.YtfljkcmijnhgkaaDoor
open Go.RowKit Go.Shelf
set_option linter.unusedSimpArgs false

section
variable {P : Program} {ops : Array Oper} {Q : Exit → Act → World → Prop} {md : Region.Mode} {S T : World → Prop} {d : Nat} {i j k fuel : Nat} {oi oj ok : Oper} {listed : Array Bool} {a : Act} {w : World}
/-- One of three comes up. -/
theorem D_three (hr : Region.ready md ops listed = [i, j, k]) (hi : ops[i]? = some oi) (hj : ops[j]? = some oj) (hk : ops[k]? = some ok)
    (h : ∀ K : Act → World → Prop, (∀ a' w', S w' → (i ≠ d → listed.getD d true = false → T w') → wpAnyD P md ops Q S T d fuel (listed.setIfInBounds i true) a' w' → K a' w') →
      if Region.wanted oi (yielded ops a.tmps) = true then Oper.wp P oi a w K Q else K (a.put oi.dst undef) w)
    (h2 : ∀ K : Act → World → Prop, (∀ a' w', S w' → (j ≠ d → listed.getD d true = false → T w') → wpAnyD P md ops Q S T d fuel (listed.setIfInBounds j true) a' w' → K a' w') →
      if Region.wanted oj (yielded ops a.tmps) = true then Oper.wp P oj a w K Q else K (a.put oj.dst undef) w)
    (h3 : ∀ K : Act → World → Prop, (∀ a' w', S w' → (k ≠ d → listed.getD d true = false → T w') → wpAnyD P md ops Q S T d fuel (listed.setIfInBounds k true) a' w' → K a' w') →
      if Region.wanted ok (yielded ops a.tmps) = true then Oper.wp P ok a w K Q else K (a.put ok.dst undef) w) : wpAnyD P md ops Q S T d (fuel + 1) listed a w := by
  have key : ∀ (q : Nat) (o : Oper), ops[q]? = some o → (∀ K : Act → World → Prop, (∀ a' w', S w' → (q ≠ d → listed.getD d true = false → T w') → wpAnyD P md ops Q S T d fuel (listed.setIfInBounds q true) a' w' → K a' w') →
      if Region.wanted o (yielded ops a.tmps) = true then Oper.wp P o a w K Q else K (a.put o.dst undef) w) →
      wpOp P ops Q q (fun a' w' => (S w' ∧ (q ≠ d → listed.getD d true = false → T w')) ∧ wpAnyD P md ops Q S T d fuel (listed.setIfInBounds q true) a' w') a w := fun q o ho h => by
    have h3 := h (fun a' w' => (S w' ∧ (q ≠ d → listed.getD d true = false → T w')) ∧ wpAnyD P md ops Q S T d fuel (listed.setIfInBounds q true) a' w') (fun a' w' h1 h2 h3 => ⟨⟨h1, h2⟩, h3⟩)
    unfold wpOp
    simp only [ho]
    split
    · rename_i hw; rw [if_pos hw] at h3; exact .inl h3
    · rename_i hw; rw [if_neg hw] at h3; exact h3
  refine ⟨fun h0 => (by rw [hr] at h0; cases h0), fun q hq => ?_⟩
  rw [hr] at hq
  rcases List.mem_cons.1 hq with rfl | hq
  · exact key _ _ hi h
  · rcases List.mem_cons.1 hq with rfl | hq
    · exact key _ _ hj h2
    · obtain rfl : q = k := by simpa using hq
      exact key _ _ hk h3
end
theorem refJoinR_lens (h : Nat) (r s : Rule) : (refJoinR h r s).1.by_.length ≤ 1000 ∧ (refJoinR h r s).1.start.length ≤ 1000 := by
  unfold refJoinR
  split
  · exact ⟨by simp, by simp⟩
  · rename_i h0
    obtain ⟨h1, h2⟩ := bothR_ok (by simpa using h0)
    obtain ⟨o1, -⟩ := rightR_ok h1
    obtain ⟨q1, -⟩ := rightR_ok h2
    unfold madeR
    split
    · rename_i t ht
      have := fitM_len ht
      rw [joinL_len] at this
      have h3 : r.by_.length * s.by_.length ≤ 12 * 12 := Nat.mul_le_mul o1 q1
      have h4 : joinO h r.by_.length s.by_.length ≤ 144 := by unfold joinO; split <;> omega
      simp only []
      omega
    · exact ⟨by simp, by simp⟩
/-- What the law has made ahead of its calls. -/
structure TogCut (w wx : World) (a b c d : Value) (g1 g2 : Nat) (ua ub va vb : Value) (r s : Rule) : Prop where
  tot : Below w.heap.size w wx
  r : OwnR wx w.heap.size (.agg #[ua, ub]) r
  s : OwnR wx w.heap.size (.agg #[va, vb]) s
  b0 : Box2 wx w.heap.size a b
  b1 : Box2 wx (w.heap.size + 1) c d
  c0 : Box2 wx g1 ua ub
  c1 : Box2 wx g2 va vb
theorem Box2.stored {W : World} {g k : Nat} {x y a b : Value} (h : Box2 W g x y) (hne : g ≠ k) : Box2 ((W.setCell ⟨k, 0, none⟩ a).setCell ⟨k, 1, none⟩ b) g x y :=
  ⟨(World.cell?_of_block ((Below.heap_setCell _ _ _ _ hne).trans (Below.heap_setCell _ _ _ _ hne))).trans h.1, (World.cell?_of_block ((Below.heap_setCell _ _ _ _ hne).trans (Below.heap_setCell _ _ _ _ hne))).trans h.2⟩
theorem heap_stored {W : World} {g k : Nat} {a b : Value} {o : Obj} (h : W.heap[g]? = some o) (hne : g ≠ k) : ((W.setCell ⟨k, 0, none⟩ a).setCell ⟨k, 1, none⟩ b).heap[g]? = some o :=
  ((Below.heap_setCell _ _ _ _ hne).trans (Below.heap_setCell _ _ _ _ hne)).trans h
theorem tog_cut {w W : World} {a b c d ua ub va vb : Value} {g1 g2 : Nat} {r s : Rule} (ht : Below w.heap.size w W) (hr : OwnR W w.heap.size (.agg #[ua, ub]) r) (hs : OwnR W w.heap.size (.agg #[va, vb]) s) (hb : Box2 W w.heap.size a b) (hb1 : Box2 W (w.heap.size + 1) c d)
    (n1 : W.heap[g1]? = some (.cells #[.slice none 0 0, .slice none 0 0] 49 (0, 0))) (n2 : W.heap[g2]? = some (.cells #[.slice none 0 0, .slice none 0 0] 49 (0, 0))) (h1 : w.heap.size + 1 < g1) (h2 : w.heap.size + 1 < g2) (hne : g1 ≠ g2) :
    TogCut w ((((W.setCell ⟨g1, 0, none⟩ ua).setCell ⟨g1, 1, none⟩ ub).setCell ⟨g2, 0, none⟩ va).setCell ⟨g2, 1, none⟩ vb) a b c d g1 g2 ua ub va vb r s := by
  have n2' := heap_stored (a := ua) (b := ub) n2 (Ne.symm hne)
  exact ⟨(((ht.setCell (p := ⟨g1, 0, none⟩) (by simp only []; omega) _).setCell (p := ⟨g1, 1, none⟩) (by simp only []; omega) _).setCell (p := ⟨g2, 0, none⟩) (by simp only []; omega) _).setCell (p := ⟨g2, 1, none⟩) (by simp only []; omega) _,
    own_apart (own_apart hr n1) n2', own_apart (own_apart hs n1) n2', (hb.stored (by omega)).stored (by omega), (hb1.stored (by omega)).stored (by omega), Box2.stored ⟨(ret_cell (heap_set2 ua ub n1)).1, (ret_cell (heap_set2 ua ub n1)).2.1⟩ hne, (ret_cell (heap_set2 va vb n2')).1, (ret_cell (heap_set2 va vb n2')).2.1⟩
set_option maxRecDepth 100000 in
set_option maxHeartbeats 12800000 in
theorem FieldTogether_any (r s : Rule) (v v' : Value) (w : World) (h : RdR w v r) (h' : RdR w v' s) (hJ : Joins w) :
    Calls Tryd.prog 5 #[v, v'] w fun e w' => e = .returned (.bool true) ∧ Below w.heap.size w w' := by
  have hR := Lib.hid h
  have hS := Lib.hid h'
  obtain ⟨Aa, na, ca, Ab, nb, cb, rfl⟩ := h.shape
  obtain ⟨Ac, nc, cc, Ad, nd, cd, rfl⟩ := h'.shape
  clear h h'
  obtain ⟨hT, B0, B1, hsz⟩ := box2 w (.slice Aa na ca) (.slice Ab nb cb) (.slice Ac nc cc) (.slice Ad nd cd) 49
  obtain ⟨X0_0, X0_1⟩ := id B0
  obtain ⟨X1_0, X1_1⟩ := id B1
  replace hT := Lib.hid hT
  have hg := Lib.hid (fun W (hW : Below w.heap.size w W) => huge_any r _ W (hR.out.below hW (Nat.le_refl _)))
  have hg' := Lib.hid (fun W (hW : Below w.heap.size w W) => huge_any s _ W (hS.out.below hW (Nat.le_refl _)))
  have hA := Lib.hid (fun W (hW : Below w.heap.size w W) => awake_any W (hJ.below hW))
  have hJb := Lib.hid (fun W (hW : Below w.heap.size w W) => hJ.below hW)
  clear hJ B0 B1
  cases e1 : hugeR r with
  | true =>
    rw [e1] at hg
    replace e1 := Lib.hid e1
    go_enter Tryd.func5, Tryd.ntmps5
    go_wp2_with fail
    generalize (w.alloc (.cells #[.slice Aa na ca, .slice Ab nb cb] 49)).alloc (.cells #[.slice Ac nc cc, .slice Ad nd cd] 49) = X0 at *
    refine (hg.out X0 hT.out).mono ?_; rintro e V1 ⟨rfl, hN1⟩
    replace hT := Lib.hid (Below.then_ hT.out hN1)
    clear hN1
    go_wp2_with fail
    refine (hA.out V1 hT.out).mono ?_; rintro e V2 ⟨rfl, hN2⟩
    replace hT := Lib.hid (Below.then_ hT.out hN2)
    clear hN2
    go_wp2
    go_ret
    exact ⟨rfl, hT.out⟩
  | false =>
    rw [e1] at hg
    cases e2 : hugeR s with
    | true =>
      rw [e2] at hg'
      replace e1 := Lib.hid e1
      replace e2 := Lib.hid e2
      go_enter Tryd.func5, Tryd.ntmps5
      go_wp2_with fail
      generalize (w.alloc (.cells #[.slice Aa na ca, .slice Ab nb cb] 49)).alloc (.cells #[.slice Ac nc cc, .slice Ad nd cd] 49) = X0 at *
      refine (hg.out X0 hT.out).mono ?_; rintro e V1 ⟨rfl, hN1⟩
      replace hT := Lib.hid (Below.then_ hT.out hN1)
      replace X1_0 := (hN1.cell (World.block_lt_of_cell? _ _ X1_0)).trans X1_0
      replace X1_1 := (hN1.cell (World.block_lt_of_cell? _ _ X1_1)).trans X1_1
      clear hN1
      go_wp2_with fail
      refine (hg'.out V1 hT.out).mono ?_; rintro e V2 ⟨rfl, hN2⟩
      replace hT := Lib.hid (Below.then_ hT.out hN2)
      replace X1_0 := (hN2.cell (World.block_lt_of_cell? _ _ X1_0)).trans X1_0
      replace X1_1 := (hN2.cell (World.block_lt_of_cell? _ _ X1_1)).trans X1_1
      clear hN2
      go_wp2_with fail
      refine (hA.out V2 hT.out).mono ?_; rintro e V3 ⟨rfl, hN3⟩
      replace hT := Lib.hid (Below.then_ hT.out hN3)
      replace X1_0 := (hN3.cell (World.block_lt_of_cell? _ _ X1_0)).trans X1_0
      replace X1_1 := (hN3.cell (World.block_lt_of_cell? _ _ X1_1)).trans X1_1
      clear hN3
      go_wp2
      go_ret
      exact ⟨rfl, hT.out⟩
    | false =>
      rw [e2] at hg'
      obtain ⟨l1, l2⟩ : r.by_.length ≤ 1000 ∧ r.start.length ≤ 1000 := by
        simp only [hugeR, Bool.or_eq_false_iff, decide_eq_false_iff_not] at e1; omega
      obtain ⟨l3, l4⟩ : s.by_.length ≤ 1000 ∧ s.start.length ≤ 1000 := by
        simp only [hugeR, Bool.or_eq_false_iff, decide_eq_false_iff_not] at e2; omega
      have ho := Lib.hid (fun W (hW : Below w.heap.size w W) => Own_any r _ W (hR.out.below hW (Nat.le_refl _)) l1 l2)
      have ho' := Lib.hid (fun W (hW : Below w.heap.size w W) => Own_any s _ W (hS.out.below hW (Nat.le_refl _)) l3 l4)
      have t0 := Lib.hid (fun W (hW : Below w.heap.size w W) => refApart_any r s _ _ W (hR.out.below hW (Nat.le_refl _)) (hS.out.below hW (Nat.le_refl _)))
      have t1 := Lib.hid (fun W (hW : Below w.heap.size w W) => refSum_any r s _ _ W (hR.out.below hW (Nat.le_refl _)) (hS.out.below hW (Nat.le_refl _)))
      have t2 := Lib.hid (fun W (hW : Below w.heap.size w W) => refTimes_any r s _ _ W (hR.out.below hW (Nat.le_refl _)) (hS.out.below hW (Nat.le_refl _)))
      have t3 := Lib.hid (fun W (hW : Below w.heap.size w W) => refFolded_any r s _ _ W (hR.out.below hW (Nat.le_refl _)) (hS.out.below hW (Nat.le_refl _)))
      have p0 := Lib.hid (fun u u' W hu hu' => Apart_any r s u u' W hu hu')
      have p1 := Lib.hid (fun u u' W hu hu' hJ => (joinR_ref 0 r s) ▸ Sum_any r s u u' W hu hu' hJ)
      have p2 := Lib.hid (fun u u' W hu hu' hJ => (joinR_ref 1 r s) ▸ Times_any r s u u' W hu hu' hJ)
      have p3 := Lib.hid (fun u u' W hu hu' hJ => (joinR_ref 2 r s) ▸ Folded_any r s u u' W hu hu' hJ)
      have sR := Lib.hid (fun u W hu hW => (sameR_self r) ▸ Same_any r r u (.agg #[.slice Aa na ca, .slice Ab nb cb]) W hu (hR.out.below (B := w.heap.size) hW (Nat.le_refl _)))
      have sS := Lib.hid (fun u W hu hW => (sameR_self s) ▸ Same_any s s u (.agg #[.slice Ac nc cc, .slice Ad nd cd]) W hu (hS.out.below (B := w.heap.size) hW (Nat.le_refl _)))
      have lF := Lib.hid (refJoinR_lens 0 r s)
      have lE := Lib.hid (refJoinR_lens 1 r s)
      have lH := Lib.hid (refJoinR_lens 2 r s)
      generalize refJoinR 0 r s = F at *
      generalize refJoinR 1 r s = E at *
      generalize refJoinR 2 r s = H at *
      generalize apartR r s = K at *
      obtain ⟨F, Fe⟩ := F
      obtain ⟨E, Ee⟩ := E
      obtain ⟨H, He⟩ := H
      obtain ⟨Kv, Ke⟩ := K
      clear hR hS
      replace e1 := Lib.hid e1
      replace e2 := Lib.hid e2
      replace l1 := Lib.hid l1
      replace l2 := Lib.hid l2
      replace l3 := Lib.hid l3
      replace l4 := Lib.hid l4
      go_enter Tryd.func5, Tryd.ntmps5
      go_wp2_with fail
      generalize (w.alloc (.cells #[.slice Aa na ca, .slice Ab nb cb] 49)).alloc (.cells #[.slice Ac nc cc, .slice Ad nd cd] 49) = X0 at *
      refine (hg.out X0 hT.out).mono ?_; rintro e A0 ⟨rfl, hN1⟩
      replace hT := Lib.hid (Below.then_ hT.out hN1)
      replace X0_0 := (hN1.cell (World.block_lt_of_cell? _ _ X0_0)).trans X0_0
      replace X0_1 := (hN1.cell (World.block_lt_of_cell? _ _ X0_1)).trans X0_1
      replace X1_0 := (hN1.cell (World.block_lt_of_cell? _ _ X1_0)).trans X1_0
      replace X1_1 := (hN1.cell (World.block_lt_of_cell? _ _ X1_1)).trans X1_1
      have z_A0 := hN1.size; clear hN1
      go_wp2_with fail
      refine (hg'.out A0 hT.out).mono ?_; rintro e A1 ⟨rfl, hN2⟩
      replace hT := Lib.hid (Below.then_ hT.out hN2)
      replace X0_0 := (hN2.cell (World.block_lt_of_cell? _ _ X0_0)).trans X0_0
      replace X0_1 := (hN2.cell (World.block_lt_of_cell? _ _ X0_1)).trans X0_1
      replace X1_0 := (hN2.cell (World.block_lt_of_cell? _ _ X1_0)).trans X1_0
      replace X1_1 := (hN2.cell (World.block_lt_of_cell? _ _ X1_1)).trans X1_1
      have z_A1 := hN2.size; clear hN2
      have B0 : Box2 A1 w.heap.size (.slice Aa na ca) (.slice Ab nb cb) := ⟨X0_0, X0_1⟩
      have B1 : Box2 A1 (w.heap.size + 1) (.slice Ac nc cc) (.slice Ad nd cd) := ⟨X1_0, X1_1⟩
      clear X0_0 X0_1 X1_0 X1_1 hsz
      go_upto_region 3 with fail
      go_cut [5, 6] (fun s5 s6 wx => ∃ g1 g2 uA un uc uB um ud vA vn vc vB vm vd, s5 = .pointer (some ⟨g1, 0, none⟩) ∧ s6 = .pointer (some ⟨g2, 0, none⟩) ∧ TogCut w wx (.slice Aa na ca) (.slice Ab nb cb) (.slice Ac nc cc) (.slice Ad nd cd) g1 g2 (.slice uA un uc) (.slice uB um ud) (.slice vA vn vc) (.slice vB vm vd) r s)
      case first =>
        have hz : w.heap.size + 1 < A1.heap.size := World.block_lt_of_cell? _ _ B1.1
        refine D_begin (fun w' => Box2 w' w.heap.size (.slice Aa na ca) (.slice Ab nb cb) ∧ Box2 w' (w.heap.size + 1) (.slice Ac nc cc) (.slice Ad nd cd)) (fun _ => True) 99 (by kernel_rfl) ?_
        change wpAnyD _ _ _ _ _ _ _ _ _ _ A1.drew
        simp only [List.size_toArray, List.length_cons, List.length_nil, Nat.reduceAdd, Array.replicate_succ, Array.replicate_zero, List.push_toArray, List.append_toArray, List.nil_append, List.cons_append]
        have B_Wd : Box2 A1.drew w.heap.size (.slice Aa na ca) (.slice Ab nb cb) := B0
        have C_Wd : Box2 A1.drew (w.heap.size + 1) (.slice Ac nc cc) (.slice Ad nd cd) := B1
        have t_Wd := Lib.hid hT.out.drew
        have z_Wd : w.heap.size + 1 < A1.drew.heap.size := hz
        clear hT B0 B1 hz
        generalize A1.drew = Wd at *
        refine D_take (i := 0) (v := ?_) rfl (by kernel_rfl) (by kernel_rfl) (by kernel_rfl) (by kernel_rfl) (fun _ _ _ h => h) (Or.inl ⟨by rfl, ?_⟩) ⟨B_Wd, C_Wd⟩ (fun _ => trivial) ?_
        rotate_left; · intro w1 hw1; obtain ⟨⟨hw1, hw2⟩, ⟨hw3, hw4⟩⟩ := hw1; go_simp; try with_reducible rfl
        try simp only [Act.put, List.getElem_toArray, List.getElem_cons_zero, List.getElem_cons_succ, List.setIfInBounds_toArray, List.set_cons_zero, List.set_cons_succ]
        refine D_take (i := 2) (v := ?_) rfl (by kernel_rfl) (by kernel_rfl) (by kernel_rfl) (by kernel_rfl) (fun _ _ _ h => h) (Or.inl ⟨by rfl, ?_⟩) ⟨B_Wd, C_Wd⟩ (fun _ => trivial) ?_
        rotate_left; · intro w1 hw1; obtain ⟨⟨hw1, hw2⟩, ⟨hw3, hw4⟩⟩ := hw1; go_simp; try with_reducible rfl
        try simp only [Act.put, List.getElem_toArray, List.getElem_cons_zero, List.getElem_cons_succ, List.setIfInBounds_toArray, List.set_cons_zero, List.set_cons_succ]
        refine D_three (i := 1) (j := 4) (k := 5) (by kernel_rfl) rfl rfl rfl ?_ ?_ ?_
        · intro K hK
          rw [if_pos (by rfl)]
          go_wp2_with fail
          refine (ho.out Wd t_Wd.out).mono ?_; rintro e U1 ⟨⟨u, rfl, hO⟩, hb⟩
          have t_U1 := Lib.hid (Below.then_ t_Wd.out hb)
          have z_U1 : w.heap.size + 1 < (U1).heap.size := Nat.lt_of_lt_of_le z_Wd hb.size
          have B_U1 := B_Wd.below hb
          have C_U1 := C_Wd.below hb
          obtain ⟨uA, un, uc, uB, um, ud, rfl⟩ := hO.shape
          have R_U1 := Lib.hid (own_kept hO (t_Wd.out.size) (fun _ _ _ => rfl))
          clear hO hb
          refine hK _ _ ⟨B_U1, C_U1⟩ (fun _ _ => trivial) ?_
          clear hK K
          try simp only [Act.put, Nat.zero_add, List.getElem_toArray, List.getElem_cons_zero, List.getElem_cons_succ, List.setIfInBounds_toArray, List.set_cons_zero, List.set_cons_succ]
          refine D_three (i := 3) (j := 4) (k := 5) (by kernel_rfl) rfl rfl rfl ?_ ?_ ?_
          · intro K hK
            rw [if_pos (by rfl)]
            go_wp2_with fail
            refine (ho'.out U1 t_U1.out).mono ?_; rintro e U2 ⟨⟨u, rfl, hO⟩, hb⟩
            have t_U2 := Lib.hid (Below.then_ t_U1.out hb)
            have z_U2 : w.heap.size + 1 < (U2).heap.size := Nat.lt_of_lt_of_le z_U1 hb.size
            have B_U2 := B_U1.below hb
            have C_U2 := C_U1.below hb
            have R_U2 := Lib.hid (R_U1.out.below hb)
            obtain ⟨vA, vn, vc, vB, vm, vd, rfl⟩ := hO.shape
            have Q_U2 := Lib.hid (own_kept hO (t_U1.out.size) (fun _ _ _ => rfl))
            clear hO hb
            refine hK _ _ ⟨B_U2, C_U2⟩ (fun _ _ => trivial) ?_
            clear hK K
            try simp only [Act.put, Nat.zero_add, List.getElem_toArray, List.getElem_cons_zero, List.getElem_cons_succ, List.setIfInBounds_toArray, List.set_cons_zero, List.set_cons_succ]
            refine D_two (i := 4) (j := 5) (by kernel_rfl) rfl rfl ?_ ?_
            · intro K hK
              rw [if_pos (by rfl)]
              go_simp
              have hb : Below U2.heap.size U2 (U2.alloc (.cells #[.slice none 0 0, .slice none 0 0] 49)) := (Below.refl _ _).alloc (Nat.le_refl _) _
              have t_U3 := Lib.hid (Below.then_ t_U2.out hb)
              have z_U3 : w.heap.size + 1 < (U2.alloc (.cells #[.slice none 0 0, .slice none 0 0] 49)).heap.size := Nat.lt_of_lt_of_le z_U2 hb.size
              have B_U3 := B_U2.below hb
              have C_U3 := C_U2.below hb
              have R_U3 := Lib.hid (R_U2.out.below hb)
              have Q_U3 := Lib.hid (Q_U2.out.below hb)
              have N4_U3 : Hid ((U2.alloc (.cells #[.slice none 0 0, .slice none 0 0] 49)).heap[U2.heap.size]? = some (.cells #[.slice none 0 0, .slice none 0 0] 49 (0, 0))) := Lib.hid (heap_alloc_new _ _)
              clear hb
              refine hK _ _ ⟨B_U3, C_U3⟩ (fun _ _ => trivial) ?_
              clear hK K
              try simp only [Act.put, Nat.zero_add, List.getElem_toArray, List.getElem_cons_zero, List.getElem_cons_succ, List.setIfInBounds_toArray, List.set_cons_zero, List.set_cons_succ]
              generalize hg_U3 : U2.alloc (.cells #[.slice none 0 0, .slice none 0 0] 49) = U3 at t_U3 z_U3 B_U3 C_U3 R_U3 Q_U3 N4_U3 ⊢
              replace hg_U3 := Lib.hid hg_U3
              refine D_one (i := 5) (by kernel_rfl) rfl ?_
              intro K hK
              rw [if_pos (by rfl)]
              go_simp
              have hb : Below U3.heap.size U3 (U3.alloc (.cells #[.slice none 0 0, .slice none 0 0] 49)) := (Below.refl _ _).alloc (Nat.le_refl _) _
              have t_U4 := Lib.hid (Below.then_ t_U3.out hb)
              have z_U4 : w.heap.size + 1 < (U3.alloc (.cells #[.slice none 0 0, .slice none 0 0] 49)).heap.size := Nat.lt_of_lt_of_le z_U3 hb.size
              have B_U4 := B_U3.below hb
              have C_U4 := C_U3.below hb
              have R_U4 := Lib.hid (R_U3.out.below hb)
              have Q_U4 := Lib.hid (Q_U3.out.below hb)
              have N4_U4 := Lib.hid ((hb.block _ (lt_of_block N4_U3.out)).trans N4_U3.out)
              have N5_U4 : Hid ((U3.alloc (.cells #[.slice none 0 0, .slice none 0 0] 49)).heap[U3.heap.size]? = some (.cells #[.slice none 0 0, .slice none 0 0] 49 (0, 0))) := Lib.hid (heap_alloc_new _ _)
              have d45 : U2.heap.size < U3.heap.size := lt_of_block N4_U3.out
              clear hb
              refine hK _ _ ⟨B_U4, C_U4⟩ (fun _ _ => trivial) ?_
              clear hK K
              try simp only [Act.put, Nat.zero_add, List.getElem_toArray, List.getElem_cons_zero, List.getElem_cons_succ, List.setIfInBounds_toArray, List.set_cons_zero, List.set_cons_succ]
              generalize hg_U4 : U3.alloc (.cells #[.slice none 0 0, .slice none 0 0] 49) = U4 at t_U4 z_U4 B_U4 C_U4 R_U4 Q_U4 N4_U4 N5_U4 ⊢
              replace hg_U4 := Lib.hid hg_U4
              obtain ⟨p0, p1, p2, p3⟩ := ret_cell N4_U4.out
              refine D_one (i := 6) (by kernel_rfl) rfl ?_
              intro K hK
              rw [if_pos (by rfl)]
              go_simp
              have hcut : TogCut w _ (.slice Aa na ca) (.slice Ab nb cb) (.slice Ac nc cc) (.slice Ad nd cd) U2.heap.size U3.heap.size (.slice uA un uc) (.slice uB um ud) (.slice vA vn vc) (.slice vB vm vd) r s := tog_cut t_U4.out R_U4.out Q_U4.out B_U4 C_U4 N4_U4.out N5_U4.out z_U2 z_U3 (by omega)
              have n5 := heap_stored (a := .slice uA un uc) (b := .slice uB um ud) N5_U4.out (show U3.heap.size ≠ U2.heap.size by omega)
              have z4 := z_U2
              have z5 := z_U3
              refine hK _ _ ⟨B_U4.stored (by omega), C_U4.stored (by omega)⟩ (fun _ _ => trivial) ?_
              clear hK K p0 p1 p2 p3
              try simp only [Act.put, Nat.zero_add, List.getElem_toArray, List.getElem_cons_zero, List.getElem_cons_succ, List.setIfInBounds_toArray, List.set_cons_zero, List.set_cons_succ]
              obtain ⟨p0, p1, p2, p3⟩ := ret_cell n5
              replace n5 := Lib.hid n5
              refine D_one (i := 7) (by kernel_rfl) rfl ?_
              intro K hK
              rw [if_pos (by rfl)]
              go_simp
              refine hK _ _ ⟨hcut.b0, hcut.b1⟩ (fun _ _ => trivial) ?_
              clear hK K p0 p1 p2 p3
              try simp only [Act.put, Nat.zero_add, List.getElem_toArray, List.getElem_cons_zero, List.getElem_cons_succ, List.setIfInBounds_toArray, List.set_cons_zero, List.set_cons_succ]
              refine D_done (by kernel_rfl) ?_ _
              go_wp2_with fail
              go_meet
              exact ⟨_, _, _, _, _, _, _, _, _, _, _, _, _, _, rfl, rfl, hcut⟩
            · intro K hK
              rw [if_pos (by rfl)]
              go_simp
              have hb : Below U2.heap.size U2 (U2.alloc (.cells #[.slice none 0 0, .slice none 0 0] 49)) := (Below.refl _ _).alloc (Nat.le_refl _) _
              have t_U5 := Lib.hid (Below.then_ t_U2.out hb)
              have z_U5 : w.heap.size + 1 < (U2.alloc (.cells #[.slice none 0 0, .slice none 0 0] 49)).heap.size := Nat.lt_of_lt_of_le z_U2 hb.size
              have B_U5 := B_U2.below hb
              have C_U5 := C_U2.below hb
              have R_U5 := Lib.hid (R_U2.out.below hb)
              have Q_U5 := Lib.hid (Q_U2.out.below hb)
              have N5_U5 : Hid ((U2.alloc (.cells #[.slice none 0 0, .slice none 0 0] 49)).heap[U2.heap.size]? = some (.cells #[.slice none 0 0, .slice none 0 0] 49 (0, 0))) := Lib.hid (heap_alloc_new _ _)
              clear hb
              refine hK _ _ ⟨B_U5, C_U5⟩ (fun _ _ => trivial) ?_
              clear hK K
              try simp only [Act.put, Nat.zero_add, List.getElem_toArray, List.getElem_cons_zero, List.getElem_cons_succ, List.setIfInBounds_toArray, List.set_cons_zero, List.set_cons_succ]
              generalize hg_U5 : U2.alloc (.cells #[.slice none 0 0, .slice none 0 0] 49) = U5 at t_U5 z_U5 B_U5 C_U5 R_U5 Q_U5 N5_U5 ⊢
              replace hg_U5 := Lib.hid hg_U5
              refine D_one (i := 4) (by kernel_rfl) rfl ?_
              intro K hK
              rw [if_pos (by rfl)]
              go_simp
              have hb : Below U5.heap.size U5 (U5.alloc (.cells #[.slice none 0 0, .slice none 0 0] 49)) := (Below.refl _ _).alloc (Nat.le_refl _) _
              have t_U6 := Lib.hid (Below.then_ t_U5.out hb)
              have z_U6 : w.heap.size + 1 < (U5.alloc (.cells #[.slice none 0 0, .slice none 0 0] 49)).heap.size := Nat.lt_of_lt_of_le z_U5 hb.size
              have B_U6 := B_U5.below hb
              have C_U6 := C_U5.below hb
              have R_U6 := Lib.hid (R_U5.out.below hb)
              have Q_U6 := Lib.hid (Q_U5.out.below hb)
              have N5_U6 := Lib.hid ((hb.block _ (lt_of_block N5_U5.out)).trans N5_U5.out)
              have N4_U6 : Hid ((U5.alloc (.cells #[.slice none 0 0, .slice none 0 0] 49)).heap[U5.heap.size]? = some (.cells #[.slice none 0 0, .slice none 0 0] 49 (0, 0))) := Lib.hid (heap_alloc_new _ _)
              have d45 : U2.heap.size < U5.heap.size := lt_of_block N5_U5.out
              clear hb
              refine hK _ _ ⟨B_U6, C_U6⟩ (fun _ _ => trivial) ?_
              clear hK K
              try simp only [Act.put, Nat.zero_add, List.getElem_toArray, List.getElem_cons_zero, List.getElem_cons_succ, List.setIfInBounds_toArray, List.set_cons_zero, List.set_cons_succ]
              generalize hg_U6 : U5.alloc (.cells #[.slice none 0 0, .slice none 0 0] 49) = U6 at t_U6 z_U6 B_U6 C_U6 R_U6 Q_U6 N5_U6 N4_U6 ⊢
              replace hg_U6 := Lib.hid hg_U6
              obtain ⟨p0, p1, p2, p3⟩ := ret_cell N4_U6.out
              refine D_one (i := 6) (by kernel_rfl) rfl ?_
              intro K hK
              rw [if_pos (by rfl)]
              go_simp
              have hcut : TogCut w _ (.slice Aa na ca) (.slice Ab nb cb) (.slice Ac nc cc) (.slice Ad nd cd) U5.heap.size U2.heap.size (.slice uA un uc) (.slice uB um ud) (.slice vA vn vc) (.slice vB vm vd) r s := tog_cut t_U6.out R_U6.out Q_U6.out B_U6 C_U6 N4_U6.out N5_U6.out z_U5 z_U2 (by omega)
              have n5 := heap_stored (a := .slice uA un uc) (b := .slice uB um ud) N5_U6.out (show U2.heap.size ≠ U5.heap.size by omega)
              have z4 := z_U5
              have z5 := z_U2
              refine hK _ _ ⟨B_U6.stored (by omega), C_U6.stored (by omega)⟩ (fun _ _ => trivial) ?_
              clear hK K p0 p1 p2 p3
              try simp only [Act.put, Nat.zero_add, List.getElem_toArray, List.getElem_cons_zero, List.getElem_cons_succ, List.setIfInBounds_toArray, List.set_cons_zero, List.set_cons_succ]
              obtain ⟨p0, p1, p2, p3⟩ := ret_cell n5
              replace n5 := Lib.hid n5
              refine D_one (i := 7) (by kernel_rfl) rfl ?_
              intro K hK
              rw [if_pos (by rfl)]
              go_simp
              refine hK _ _ ⟨hcut.b0, hcut.b1⟩ (fun _ _ => trivial) ?_
              clear hK K p0 p1 p2 p3
              try simp only [Act.put, Nat.zero_add, List.getElem_toArray, List.getElem_cons_zero, List.getElem_cons_succ, List.setIfInBounds_toArray, List.set_cons_zero, List.set_cons_succ]
              refine D_done (by kernel_rfl) ?_ _
              go_wp2_with fail
              go_meet
              exact ⟨_, _, _, _, _, _, _, _, _, _, _, _, _, _, rfl, rfl, hcut⟩
          · intro K hK
            rw [if_pos (by rfl)]
            go_simp
            have hb : Below U1.heap.size U1 (U1.alloc (.cells #[.slice none 0 0, .slice none 0 0] 49)) := (Below.refl _ _).alloc (Nat.le_refl _) _
            have t_U7 := Lib.hid (Below.then_ t_U1.out hb)
            have z_U7 : w.heap.size + 1 < (U1.alloc (.cells #[.slice none 0 0, .slice none 0 0] 49)).heap.size := Nat.lt_of_lt_of_le z_U1 hb.size
            have B_U7 := B_U1.below hb
            have C_U7 := C_U1.below hb
            have R_U7 := Lib.hid (R_U1.out.below hb)
            have N4_U7 : Hid ((U1.alloc (.cells #[.slice none 0 0, .slice none 0 0] 49)).heap[U1.heap.size]? = some (.cells #[.slice none 0 0, .slice none 0 0] 49 (0, 0))) := Lib.hid (heap_alloc_new _ _)
            clear hb
            refine hK _ _ ⟨B_U7, C_U7⟩ (fun _ _ => trivial) ?_
            clear hK K
            try simp only [Act.put, Nat.zero_add, List.getElem_toArray, List.getElem_cons_zero, List.getElem_cons_succ, List.setIfInBounds_toArray, List.set_cons_zero, List.set_cons_succ]
            generalize hg_U7 : U1.alloc (.cells #[.slice none 0 0, .slice none 0 0] 49) = U7 at t_U7 z_U7 B_U7 C_U7 R_U7 N4_U7 ⊢
            replace hg_U7 := Lib.hid hg_U7
            refine D_two (i := 3) (j := 5) (by kernel_rfl) rfl rfl ?_ ?_
            · intro K hK
              rw [if_pos (by rfl)]
              go_wp2_with fail
              refine (ho'.out U7 t_U7.out).mono ?_; rintro e U8 ⟨⟨u, rfl, hO⟩, hb⟩
              have t_U8 := Lib.hid (Below.then_ t_U7.out hb)
              have z_U8 : w.heap.size + 1 < (U8).heap.size := Nat.lt_of_lt_of_le z_U7 hb.size
              have B_U8 := B_U7.below hb
              have C_U8 := C_U7.below hb
              have R_U8 := Lib.hid (R_U7.out.below hb)
              have N4_U8 := Lib.hid ((hb.block _ (lt_of_block N4_U7.out)).trans N4_U7.out)
              obtain ⟨vA, vn, vc, vB, vm, vd, rfl⟩ := hO.shape
              have Q_U8 := Lib.hid (own_kept hO (t_U7.out.size) (fun _ _ _ => rfl))
              clear hO hb
              refine hK _ _ ⟨B_U8, C_U8⟩ (fun _ _ => trivial) ?_
              clear hK K
              try simp only [Act.put, Nat.zero_add, List.getElem_toArray, List.getElem_cons_zero, List.getElem_cons_succ, List.setIfInBounds_toArray, List.set_cons_zero, List.set_cons_succ]
              refine D_one (i := 5) (by kernel_rfl) rfl ?_
              intro K hK
              rw [if_pos (by rfl)]
              go_simp
              have hb : Below U8.heap.size U8 (U8.alloc (.cells #[.slice none 0 0, .slice none 0 0] 49)) := (Below.refl _ _).alloc (Nat.le_refl _) _
              have t_U9 := Lib.hid (Below.then_ t_U8.out hb)
              have z_U9 : w.heap.size + 1 < (U8.alloc (.cells #[.slice none 0 0, .slice none 0 0] 49)).heap.size := Nat.lt_of_lt_of_le z_U8 hb.size
              have B_U9 := B_U8.below hb
              have C_U9 := C_U8.below hb
              have R_U9 := Lib.hid (R_U8.out.below hb)
              have Q_U9 := Lib.hid (Q_U8.out.below hb)
              have N4_U9 := Lib.hid ((hb.block _ (lt_of_block N4_U8.out)).trans N4_U8.out)
              have N5_U9 : Hid ((U8.alloc (.cells #[.slice none 0 0, .slice none 0 0] 49)).heap[U8.heap.size]? = some (.cells #[.slice none 0 0, .slice none 0 0] 49 (0, 0))) := Lib.hid (heap_alloc_new _ _)
              have d45 : U1.heap.size < U8.heap.size := lt_of_block N4_U8.out
              clear hb
              refine hK _ _ ⟨B_U9, C_U9⟩ (fun _ _ => trivial) ?_
              clear hK K
              try simp only [Act.put, Nat.zero_add, List.getElem_toArray, List.getElem_cons_zero, List.getElem_cons_succ, List.setIfInBounds_toArray, List.set_cons_zero, List.set_cons_succ]
              generalize hg_U9 : U8.alloc (.cells #[.slice none 0 0, .slice none 0 0] 49) = U9 at t_U9 z_U9 B_U9 C_U9 R_U9 Q_U9 N4_U9 N5_U9 ⊢
              replace hg_U9 := Lib.hid hg_U9
              obtain ⟨p0, p1, p2, p3⟩ := ret_cell N4_U9.out
              refine D_one (i := 6) (by kernel_rfl) rfl ?_
              intro K hK
              rw [if_pos (by rfl)]
              go_simp
              have hcut : TogCut w _ (.slice Aa na ca) (.slice Ab nb cb) (.slice Ac nc cc) (.slice Ad nd cd) U1.heap.size U8.heap.size (.slice uA un uc) (.slice uB um ud) (.slice vA vn vc) (.slice vB vm vd) r s := tog_cut t_U9.out R_U9.out Q_U9.out B_U9 C_U9 N4_U9.out N5_U9.out z_U1 z_U8 (by omega)
              have n5 := heap_stored (a := .slice uA un uc) (b := .slice uB um ud) N5_U9.out (show U8.heap.size ≠ U1.heap.size by omega)
              have z4 := z_U1
              have z5 := z_U8
              refine hK _ _ ⟨B_U9.stored (by omega), C_U9.stored (by omega)⟩ (fun _ _ => trivial) ?_
              clear hK K p0 p1 p2 p3
              try simp only [Act.put, Nat.zero_add, List.getElem_toArray, List.getElem_cons_zero, List.getElem_cons_succ, List.setIfInBounds_toArray, List.set_cons_zero, List.set_cons_succ]
              obtain ⟨p0, p1, p2, p3⟩ := ret_cell n5
              replace n5 := Lib.hid n5
              refine D_one (i := 7) (by kernel_rfl) rfl ?_
              intro K hK
              rw [if_pos (by rfl)]
              go_simp
              refine hK _ _ ⟨hcut.b0, hcut.b1⟩ (fun _ _ => trivial) ?_
              clear hK K p0 p1 p2 p3
              try simp only [Act.put, Nat.zero_add, List.getElem_toArray, List.getElem_cons_zero, List.getElem_cons_succ, List.setIfInBounds_toArray, List.set_cons_zero, List.set_cons_succ]
              refine D_done (by kernel_rfl) ?_ _
              go_wp2_with fail
              go_meet
              exact ⟨_, _, _, _, _, _, _, _, _, _, _, _, _, _, rfl, rfl, hcut⟩
            · intro K hK
              rw [if_pos (by rfl)]
              go_simp
              have hb : Below U7.heap.size U7 (U7.alloc (.cells #[.slice none 0 0, .slice none 0 0] 49)) := (Below.refl _ _).alloc (Nat.le_refl _) _
              have t_U10 := Lib.hid (Below.then_ t_U7.out hb)
              have z_U10 : w.heap.size + 1 < (U7.alloc (.cells #[.slice none 0 0, .slice none 0 0] 49)).heap.size := Nat.lt_of_lt_of_le z_U7 hb.size
              have B_U10 := B_U7.below hb
              have C_U10 := C_U7.below hb
              have R_U10 := Lib.hid (R_U7.out.below hb)
              have N4_U10 := Lib.hid ((hb.block _ (lt_of_block N4_U7.out)).trans N4_U7.out)
              have N5_U10 : Hid ((U7.alloc (.cells #[.slice none 0 0, .slice none 0 0] 49)).heap[U7.heap.size]? = some (.cells #[.slice none 0 0, .slice none 0 0] 49 (0, 0))) := Lib.hid (heap_alloc_new _ _)
              have d45 : U1.heap.size < U7.heap.size := lt_of_block N4_U7.out
              clear hb
              refine hK _ _ ⟨B_U10, C_U10⟩ (fun _ _ => trivial) ?_
              clear hK K
              try simp only [Act.put, Nat.zero_add, List.getElem_toArray, List.getElem_cons_zero, List.getElem_cons_succ, List.setIfInBounds_toArray, List.set_cons_zero, List.set_cons_succ]
              generalize hg_U10 : U7.alloc (.cells #[.slice none 0 0, .slice none 0 0] 49) = U10 at t_U10 z_U10 B_U10 C_U10 R_U10 N4_U10 N5_U10 ⊢
              replace hg_U10 := Lib.hid hg_U10
              refine D_one (i := 3) (by kernel_rfl) rfl ?_
              intro K hK
              rw [if_pos (by rfl)]
              go_wp2_with fail
              refine (ho'.out U10 t_U10.out).mono ?_; rintro e U11 ⟨⟨u, rfl, hO⟩, hb⟩
              have t_U11 := Lib.hid (Below.then_ t_U10.out hb)
              have z_U11 : w.heap.size + 1 < (U11).heap.size := Nat.lt_of_lt_of_le z_U10 hb.size
              have B_U11 := B_U10.below hb
              have C_U11 := C_U10.below hb
              have R_U11 := Lib.hid (R_U10.out.below hb)
              have N4_U11 := Lib.hid ((hb.block _ (lt_of_block N4_U10.out)).trans N4_U10.out)
              have N5_U11 := Lib.hid ((hb.block _ (lt_of_block N5_U10.out)).trans N5_U10.out)
              obtain ⟨vA, vn, vc, vB, vm, vd, rfl⟩ := hO.shape
              have Q_U11 := Lib.hid (own_kept hO (t_U10.out.size) (fun _ _ _ => rfl))
              clear hO hb
              refine hK _ _ ⟨B_U11, C_U11⟩ (fun _ _ => trivial) ?_
              clear hK K
              try simp only [Act.put, Nat.zero_add, List.getElem_toArray, List.getElem_cons_zero, List.getElem_cons_succ, List.setIfInBounds_toArray, List.set_cons_zero, List.set_cons_succ]
              obtain ⟨p0, p1, p2, p3⟩ := ret_cell N4_U11.out
              refine D_one (i := 6) (by kernel_rfl) rfl ?_
              intro K hK
              rw [if_pos (by rfl)]
              go_simp
              have hcut : TogCut w _ (.slice Aa na ca) (.slice Ab nb cb) (.slice Ac nc cc) (.slice Ad nd cd) U1.heap.size U7.heap.size (.slice uA un uc) (.slice uB um ud) (.slice vA vn vc) (.slice vB vm vd) r s := tog_cut t_U11.out R_U11.out Q_U11.out B_U11 C_U11 N4_U11.out N5_U11.out z_U1 z_U7 (by omega)
              have n5 := heap_stored (a := .slice uA un uc) (b := .slice uB um ud) N5_U11.out (show U7.heap.size ≠ U1.heap.size by omega)
              have z4 := z_U1
              have z5 := z_U7
              refine hK _ _ ⟨B_U11.stored (by omega), C_U11.stored (by omega)⟩ (fun _ _ => trivial) ?_
              clear hK K p0 p1 p2 p3
              try simp only [Act.put, Nat.zero_add, List.getElem_toArray, List.getElem_cons_zero, List.getElem_cons_succ, List.setIfInBounds_toArray, List.set_cons_zero, List.set_cons_succ]
              obtain ⟨p0, p1, p2, p3⟩ := ret_cell n5
              replace n5 := Lib.hid n5
              refine D_one (i := 7) (by kernel_rfl) rfl ?_
              intro K hK
              rw [if_pos (by rfl)]
              go_simp
              refine hK _ _ ⟨hcut.b0, hcut.b1⟩ (fun _ _ => trivial) ?_
              clear hK K p0 p1 p2 p3
              try simp only [Act.put, Nat.zero_add, List.getElem_toArray, List.getElem_cons_zero, List.getElem_cons_succ, List.setIfInBounds_toArray, List.set_cons_zero, List.set_cons_succ]
              refine D_done (by kernel_rfl) ?_ _
              go_wp2_with fail
              go_meet
              exact ⟨_, _, _, _, _, _, _, _, _, _, _, _, _, _, rfl, rfl, hcut⟩
          · intro K hK
            rw [if_pos (by rfl)]
            go_simp
            have hb : Below U1.heap.size U1 (U1.alloc (.cells #[.slice none 0 0, .slice none 0 0] 49)) := (Below.refl _ _).alloc (Nat.le_refl _) _
            have t_U12 := Lib.hid (Below.then_ t_U1.out hb)
            have z_U12 : w.heap.size + 1 < (U1.alloc (.cells #[.slice none 0 0, .slice none 0 0] 49)).heap.size := Nat.lt_of_lt_of_le z_U1 hb.size
            have B_U12 := B_U1.below hb
            have C_U12 := C_U1.below hb
            have R_U12 := Lib.hid (R_U1.out.below hb)
            have N5_U12 : Hid ((U1.alloc (.cells #[.slice none 0 0, .slice none 0 0] 49)).heap[U1.heap.size]? = some (.cells #[.slice none 0 0, .slice none 0 0] 49 (0, 0))) := Lib.hid (heap_alloc_new _ _)
            clear hb
            refine hK _ _ ⟨B_U12, C_U12⟩ (fun _ _ => trivial) ?_
            clear hK K
            try simp only [Act.put, Nat.zero_add, List.getElem_toArray, List.getElem_cons_zero, List.getElem_cons_succ, List.setIfInBounds_toArray, List.set_cons_zero, List.set_cons_succ]
            generalize hg_U12 : U1.alloc (.cells #[.slice none 0 0, .slice none 0 0] 49) = U12 at t_U12 z_U12 B_U12 C_U12 R_U12 N5_U12 ⊢
            replace hg_U12 := Lib.hid hg_U12
            refine D_two (i := 3) (j := 4) (by kernel_rfl) rfl rfl ?_ ?_
            · intro K hK
              rw [if_pos (by rfl)]
              go_wp2_with fail
              refine (ho'.out U12 t_U12.out).mono ?_; rintro e U13 ⟨⟨u, rfl, hO⟩, hb⟩
              have t_U13 := Lib.hid (Below.then_ t_U12.out hb)
              have z_U13 : w.heap.size + 1 < (U13).heap.size := Nat.lt_of_lt_of_le z_U12 hb.size
              have B_U13 := B_U12.below hb
              have C_U13 := C_U12.below hb
              have R_U13 := Lib.hid (R_U12.out.below hb)
              have N5_U13 := Lib.hid ((hb.block _ (lt_of_block N5_U12.out)).trans N5_U12.out)
              obtain ⟨vA, vn, vc, vB, vm, vd, rfl⟩ := hO.shape
              have Q_U13 := Lib.hid (own_kept hO (t_U12.out.size) (fun _ _ _ => rfl))
              clear hO hb
              refine hK _ _ ⟨B_U13, C_U13⟩ (fun _ _ => trivial) ?_
              clear hK K
              try simp only [Act.put, Nat.zero_add, List.getElem_toArray, List.getElem_cons_zero, List.getElem_cons_succ, List.setIfInBounds_toArray, List.set_cons_zero, List.set_cons_succ]
              refine D_one (i := 4) (by kernel_rfl) rfl ?_
              intro K hK
              rw [if_pos (by rfl)]
              go_simp
              have hb : Below U13.heap.size U13 (U13.alloc (.cells #[.slice none 0 0, .slice none 0 0] 49)) := (Below.refl _ _).alloc (Nat.le_refl _) _
              have t_U14 := Lib.hid (Below.then_ t_U13.out hb)
              have z_U14 : w.heap.size + 1 < (U13.alloc (.cells #[.slice none 0 0, .slice none 0 0] 49)).heap.size := Nat.lt_of_lt_of_le z_U13 hb.size
              have B_U14 := B_U13.below hb
              have C_U14 := C_U13.below hb
              have R_U14 := Lib.hid (R_U13.out.below hb)
              have Q_U14 := Lib.hid (Q_U13.out.below hb)
              have N5_U14 := Lib.hid ((hb.block _ (lt_of_block N5_U13.out)).trans N5_U13.out)
              have N4_U14 : Hid ((U13.alloc (.cells #[.slice none 0 0, .slice none 0 0] 49)).heap[U13.heap.size]? = some (.cells #[.slice none 0 0, .slice none 0 0] 49 (0, 0))) := Lib.hid (heap_alloc_new _ _)
              have d45 : U1.heap.size < U13.heap.size := lt_of_block N5_U13.out
              clear hb
              refine hK _ _ ⟨B_U14, C_U14⟩ (fun _ _ => trivial) ?_
              clear hK K
              try simp only [Act.put, Nat.zero_add, List.getElem_toArray, List.getElem_cons_zero, List.getElem_cons_succ, List.setIfInBounds_toArray, List.set_cons_zero, List.set_cons_succ]
              generalize hg_U14 : U13.alloc (.cells #[.slice none 0 0, .slice none 0 0] 49) = U14 at t_U14 z_U14 B_U14 C_U14 R_U14 Q_U14 N5_U14 N4_U14 ⊢
              replace hg_U14 := Lib.hid hg_U14
              obtain ⟨p0, p1, p2, p3⟩ := ret_cell N4_U14.out
              refine D_one (i := 6) (by kernel_rfl) rfl ?_
              intro K hK
              rw [if_pos (by rfl)]
              go_simp
              have hcut : TogCut w _ (.slice Aa na ca) (.slice Ab nb cb) (.slice Ac nc cc) (.slice Ad nd cd) U13.heap.size U1.heap.size (.slice uA un uc) (.slice uB um ud) (.slice vA vn vc) (.slice vB vm vd) r s := tog_cut t_U14.out R_U14.out Q_U14.out B_U14 C_U14 N4_U14.out N5_U14.out z_U13 z_U1 (by omega)
              have n5 := heap_stored (a := .slice uA un uc) (b := .slice uB um ud) N5_U14.out (show U1.heap.size ≠ U13.heap.size by omega)
              have z4 := z_U13
              have z5 := z_U1
              refine hK _ _ ⟨B_U14.stored (by omega), C_U14.stored (by omega)⟩ (fun _ _ => trivial) ?_
              clear hK K p0 p1 p2 p3
              try simp only [Act.put, Nat.zero_add, List.getElem_toArray, List.getElem_cons_zero, List.getElem_cons_succ, List.setIfInBounds_toArray, List.set_cons_zero, List.set_cons_succ]
              obtain ⟨p0, p1, p2, p3⟩ := ret_cell n5
              replace n5 := Lib.hid n5
              refine D_one (i := 7) (by kernel_rfl) rfl ?_
              intro K hK
              rw [if_pos (by rfl)]
              go_simp
              refine hK _ _ ⟨hcut.b0, hcut.b1⟩ (fun _ _ => trivial) ?_
              clear hK K p0 p1 p2 p3
              try simp only [Act.put, Nat.zero_add, List.getElem_toArray, List.getElem_cons_zero, List.getElem_cons_succ, List.setIfInBounds_toArray, List.set_cons_zero, List.set_cons_succ]
              refine D_done (by kernel_rfl) ?_ _
              go_wp2_with fail
              go_meet
              exact ⟨_, _, _, _, _, _, _, _, _, _, _, _, _, _, rfl, rfl, hcut⟩
            · intro K hK
              rw [if_pos (by rfl)]
              go_simp
              have hb : Below U12.heap.size U12 (U12.alloc (.cells #[.slice none 0 0, .slice none 0 0] 49)) := (Below.refl _ _).alloc (Nat.le_refl _) _
              have t_U15 := Lib.hid (Below.then_ t_U12.out hb)
              have z_U15 : w.heap.size + 1 < (U12.alloc (.cells #[.slice none 0 0, .slice none 0 0] 49)).heap.size := Nat.lt_of_lt_of_le z_U12 hb.size
              have B_U15 := B_U12.below hb
              have C_U15 := C_U12.below hb
              have R_U15 := Lib.hid (R_U12.out.below hb)
              have N5_U15 := Lib.hid ((hb.block _ (lt_of_block N5_U12.out)).trans N5_U12.out)
              have N4_U15 : Hid ((U12.alloc (.cells #[.slice none 0 0, .slice none 0 0] 49)).heap[U12.heap.size]? = some (.cells #[.slice none 0 0, .slice none 0 0] 49 (0, 0))) := Lib.hid (heap_alloc_new _ _)
              have d45 : U1.heap.size < U12.heap.size := lt_of_block N5_U12.out
              clear hb
              refine hK _ _ ⟨B_U15, C_U15⟩ (fun _ _ => trivial) ?_
              clear hK K
              try simp only [Act.put, Nat.zero_add, List.getElem_toArray, List.getElem_cons_zero, List.getElem_cons_succ, List.setIfInBounds_toArray, List.set_cons_zero, List.set_cons_succ]
              generalize hg_U15 : U12.alloc (.cells #[.slice none 0 0, .slice none 0 0] 49) = U15 at t_U15 z_U15 B_U15 C_U15 R_U15 N5_U15 N4_U15 ⊢
              replace hg_U15 := Lib.hid hg_U15
              refine D_one (i := 3) (by kernel_rfl) rfl ?_
              intro K hK
              rw [if_pos (by rfl)]
              go_wp2_with fail
              refine (ho'.out U15 t_U15.out).mono ?_; rintro e U16 ⟨⟨u, rfl, hO⟩, hb⟩
              have t_U16 := Lib.hid (Below.then_ t_U15.out hb)
              have z_U16 : w.heap.size + 1 < (U16).heap.size := Nat.lt_of_lt_of_le z_U15 hb.size
              have B_U16 := B_U15.below hb
              have C_U16 := C_U15.below hb
              have R_U16 := Lib.hid (R_U15.out.below hb)
              have N4_U16 := Lib.hid ((hb.block _ (lt_of_block N4_U15.out)).trans N4_U15.out)
              have N5_U16 := Lib.hid ((hb.block _ (lt_of_block N5_U15.out)).trans N5_U15.out)
              obtain ⟨vA, vn, vc, vB, vm, vd, rfl⟩ := hO.shape
              have Q_U16 := Lib.hid (own_kept hO (t_U15.out.size) (fun _ _ _ => rfl))
              clear hO hb
              refine hK _ _ ⟨B_U16, C_U16⟩ (fun _ _ => trivial) ?_
              clear hK K
              try simp only [Act.put, Nat.zero_add, List.getElem_toArray, List.getElem_cons_zero, List.getElem_cons_succ, List.setIfInBounds_toArray, List.set_cons_zero, List.set_cons_succ]
              obtain ⟨p0, p1, p2, p3⟩ := ret_cell N4_U16.out
              refine D_one (i := 6) (by kernel_rfl) rfl ?_
              intro K hK
              rw [if_pos (by rfl)]
              go_simp
              have hcut : TogCut w _ (.slice Aa na ca) (.slice Ab nb cb) (.slice Ac nc cc) (.slice Ad nd cd) U12.heap.size U1.heap.size (.slice uA un uc) (.slice uB um ud) (.slice vA vn vc) (.slice vB vm vd) r s := tog_cut t_U16.out R_U16.out Q_U16.out B_U16 C_U16 N4_U16.out N5_U16.out z_U12 z_U1 (by omega)
              have n5 := heap_stored (a := .slice uA un uc) (b := .slice uB um ud) N5_U16.out (show U1.heap.size ≠ U12.heap.size by omega)
              have z4 := z_U12
              have z5 := z_U1
              refine hK _ _ ⟨B_U16.stored (by omega), C_U16.stored (by omega)⟩ (fun _ _ => trivial) ?_
              clear hK K p0 p1 p2 p3
              try simp only [Act.put, Nat.zero_add, List.getElem_toArray, List.getElem_cons_zero, List.getElem_cons_succ, List.setIfInBounds_toArray, List.set_cons_zero, List.set_cons_succ]
              obtain ⟨p0, p1, p2, p3⟩ := ret_cell n5
              replace n5 := Lib.hid n5
              refine D_one (i := 7) (by kernel_rfl) rfl ?_
              intro K hK
              rw [if_pos (by rfl)]
              go_simp
              refine hK _ _ ⟨hcut.b0, hcut.b1⟩ (fun _ _ => trivial) ?_
              clear hK K p0 p1 p2 p3
              try simp only [Act.put, Nat.zero_add, List.getElem_toArray, List.getElem_cons_zero, List.getElem_cons_succ, List.setIfInBounds_toArray, List.set_cons_zero, List.set_cons_succ]
              refine D_done (by kernel_rfl) ?_ _
              go_wp2_with fail
              go_meet
              exact ⟨_, _, _, _, _, _, _, _, _, _, _, _, _, _, rfl, rfl, hcut⟩
        · intro K hK
          rw [if_pos (by rfl)]
          go_simp
          have hb : Below Wd.heap.size Wd (Wd.alloc (.cells #[.slice none 0 0, .slice none 0 0] 49)) := (Below.refl _ _).alloc (Nat.le_refl _) _
          have t_U17 := Lib.hid (Below.then_ t_Wd.out hb)
          have z_U17 : w.heap.size + 1 < (Wd.alloc (.cells #[.slice none 0 0, .slice none 0 0] 49)).heap.size := Nat.lt_of_lt_of_le z_Wd hb.size
          have B_U17 := B_Wd.below hb
          have C_U17 := C_Wd.below hb
          have N4_U17 : Hid ((Wd.alloc (.cells #[.slice none 0 0, .slice none 0 0] 49)).heap[Wd.heap.size]? = some (.cells #[.slice none 0 0, .slice none 0 0] 49 (0, 0))) := Lib.hid (heap_alloc_new _ _)
          clear hb
          refine hK _ _ ⟨B_U17, C_U17⟩ (fun _ _ => trivial) ?_
          clear hK K
          try simp only [Act.put, Nat.zero_add, List.getElem_toArray, List.getElem_cons_zero, List.getElem_cons_succ, List.setIfInBounds_toArray, List.set_cons_zero, List.set_cons_succ]
          generalize hg_U17 : Wd.alloc (.cells #[.slice none 0 0, .slice none 0 0] 49) = U17 at t_U17 z_U17 B_U17 C_U17 N4_U17 ⊢
          replace hg_U17 := Lib.hid hg_U17
          refine D_two (i := 1) (j := 5) (by kernel_rfl) rfl rfl ?_ ?_
          · intro K hK
            rw [if_pos (by rfl)]
            go_wp2_with fail
            refine (ho.out U17 t_U17.out).mono ?_; rintro e U18 ⟨⟨u, rfl, hO⟩, hb⟩
            have t_U18 := Lib.hid (Below.then_ t_U17.out hb)
            have z_U18 : w.heap.size + 1 < (U18).heap.size := Nat.lt_of_lt_of_le z_U17 hb.size
            have B_U18 := B_U17.below hb
            have C_U18 := C_U17.below hb
            have N4_U18 := Lib.hid ((hb.block _ (lt_of_block N4_U17.out)).trans N4_U17.out)
            obtain ⟨uA, un, uc, uB, um, ud, rfl⟩ := hO.shape
            have R_U18 := Lib.hid (own_kept hO (t_U17.out.size) (fun _ _ _ => rfl))
            clear hO hb
            refine hK _ _ ⟨B_U18, C_U18⟩ (fun _ _ => trivial) ?_
            clear hK K
            try simp only [Act.put, Nat.zero_add, List.getElem_toArray, List.getElem_cons_zero, List.getElem_cons_succ, List.setIfInBounds_toArray, List.set_cons_zero, List.set_cons_succ]
            refine D_two (i := 3) (j := 5) (by kernel_rfl) rfl rfl ?_ ?_
            · intro K hK
              rw [if_pos (by rfl)]
              go_wp2_with fail
              refine (ho'.out U18 t_U18.out).mono ?_; rintro e U19 ⟨⟨u, rfl, hO⟩, hb⟩
              have t_U19 := Lib.hid (Below.then_ t_U18.out hb)
              have z_U19 : w.heap.size + 1 < (U19).heap.size := Nat.lt_of_lt_of_le z_U18 hb.size
              have B_U19 := B_U18.below hb
              have C_U19 := C_U18.below hb
              have R_U19 := Lib.hid (R_U18.out.below hb)
              have N4_U19 := Lib.hid ((hb.block _ (lt_of_block N4_U18.out)).trans N4_U18.out)
              obtain ⟨vA, vn, vc, vB, vm, vd, rfl⟩ := hO.shape
              have Q_U19 := Lib.hid (own_kept hO (t_U18.out.size) (fun _ _ _ => rfl))
              clear hO hb
              refine hK _ _ ⟨B_U19, C_U19⟩ (fun _ _ => trivial) ?_
              clear hK K
              try simp only [Act.put, Nat.zero_add, List.getElem_toArray, List.getElem_cons_zero, List.getElem_cons_succ, List.setIfInBounds_toArray, List.set_cons_zero, List.set_cons_succ]
              refine D_one (i := 5) (by kernel_rfl) rfl ?_
              intro K hK
              rw [if_pos (by rfl)]
              go_simp
              have hb : Below U19.heap.size U19 (U19.alloc (.cells #[.slice none 0 0, .slice none 0 0] 49)) := (Below.refl _ _).alloc (Nat.le_refl _) _
              have t_U20 := Lib.hid (Below.then_ t_U19.out hb)
              have z_U20 : w.heap.size + 1 < (U19.alloc (.cells #[.slice none 0 0, .slice none 0 0] 49)).heap.size := Nat.lt_of_lt_of_le z_U19 hb.size
              have B_U20 := B_U19.below hb
              have C_U20 := C_U19.below hb
              have R_U20 := Lib.hid (R_U19.out.below hb)
              have Q_U20 := Lib.hid (Q_U19.out.below hb)
              have N4_U20 := Lib.hid ((hb.block _ (lt_of_block N4_U19.out)).trans N4_U19.out)
              have N5_U20 : Hid ((U19.alloc (.cells #[.slice none 0 0, .slice none 0 0] 49)).heap[U19.heap.size]? = some (.cells #[.slice none 0 0, .slice none 0 0] 49 (0, 0))) := Lib.hid (heap_alloc_new _ _)
              have d45 : Wd.heap.size < U19.heap.size := lt_of_block N4_U19.out
              clear hb
              refine hK _ _ ⟨B_U20, C_U20⟩ (fun _ _ => trivial) ?_
              clear hK K
              try simp only [Act.put, Nat.zero_add, List.getElem_toArray, List.getElem_cons_zero, List.getElem_cons_succ, List.setIfInBounds_toArray, List.set_cons_zero, List.set_cons_succ]
              generalize hg_U20 : U19.alloc (.cells #[.slice none 0 0, .slice none 0 0] 49) = U20 at t_U20 z_U20 B_U20 C_U20 R_U20 Q_U20 N4_U20 N5_U20 ⊢
              replace hg_U20 := Lib.hid hg_U20
              obtain ⟨p0, p1, p2, p3⟩ := ret_cell N4_U20.out
              refine D_one (i := 6) (by kernel_rfl) rfl ?_
              intro K hK
              rw [if_pos (by rfl)]
              go_simp
              have hcut : TogCut w _ (.slice Aa na ca) (.slice Ab nb cb) (.slice Ac nc cc) (.slice Ad nd cd) Wd.heap.size U19.heap.size (.slice uA un uc) (.slice uB um ud) (.slice vA vn vc) (.slice vB vm vd) r s := tog_cut t_U20.out R_U20.out Q_U20.out B_U20 C_U20 N4_U20.out N5_U20.out z_Wd z_U19 (by omega)
              have n5 := heap_stored (a := .slice uA un uc) (b := .slice uB um ud) N5_U20.out (show U19.heap.size ≠ Wd.heap.size by omega)
              have z4 := z_Wd
              have z5 := z_U19
              refine hK _ _ ⟨B_U20.stored (by omega), C_U20.stored (by omega)⟩ (fun _ _ => trivial) ?_
              clear hK K p0 p1 p2 p3
              try simp only [Act.put, Nat.zero_add, List.getElem_toArray, List.getElem_cons_zero, List.getElem_cons_succ, List.setIfInBounds_toArray, List.set_cons_zero, List.set_cons_succ]
              obtain ⟨p0, p1, p2, p3⟩ := ret_cell n5
              replace n5 := Lib.hid n5
              refine D_one (i := 7) (by kernel_rfl) rfl ?_
              intro K hK
              rw [if_pos (by rfl)]
              go_simp
              refine hK _ _ ⟨hcut.b0, hcut.b1⟩ (fun _ _ => trivial) ?_
              clear hK K p0 p1 p2 p3
              try simp only [Act.put, Nat.zero_add, List.getElem_toArray, List.getElem_cons_zero, List.getElem_cons_succ, List.setIfInBounds_toArray, List.set_cons_zero, List.set_cons_succ]
              refine D_done (by kernel_rfl) ?_ _
              go_wp2_with fail
              go_meet
              exact ⟨_, _, _, _, _, _, _, _, _, _, _, _, _, _, rfl, rfl, hcut⟩
            · intro K hK
              rw [if_pos (by rfl)]
              go_simp
              have hb : Below U18.heap.size U18 (U18.alloc (.cells #[.slice none 0 0, .slice none 0 0] 49)) := (Below.refl _ _).alloc (Nat.le_refl _) _
              have t_U21 := Lib.hid (Below.then_ t_U18.out hb)
              have z_U21 : w.heap.size + 1 < (U18.alloc (.cells #[.slice none 0 0, .slice none 0 0] 49)).heap.size := Nat.lt_of_lt_of_le z_U18 hb.size
              have B_U21 := B_U18.below hb
              have C_U21 := C_U18.below hb
              have R_U21 := Lib.hid (R_U18.out.below hb)
              have N4_U21 := Lib.hid ((hb.block _ (lt_of_block N4_U18.out)).trans N4_U18.out)
              have N5_U21 : Hid ((U18.alloc (.cells #[.slice none 0 0, .slice none 0 0] 49)).heap[U18.heap.size]? = some (.cells #[.slice none 0 0, .slice none 0 0] 49 (0, 0))) := Lib.hid (heap_alloc_new _ _)
              have d45 : Wd.heap.size < U18.heap.size := lt_of_block N4_U18.out
              clear hb
              refine hK _ _ ⟨B_U21, C_U21⟩ (fun _ _ => trivial) ?_
              clear hK K
              try simp only [Act.put, Nat.zero_add, List.getElem_toArray, List.getElem_cons_zero, List.getElem_cons_succ, List.setIfInBounds_toArray, List.set_cons_zero, List.set_cons_succ]
              generalize hg_U21 : U18.alloc (.cells #[.slice none 0 0, .slice none 0 0] 49) = U21 at t_U21 z_U21 B_U21 C_U21 R_U21 N4_U21 N5_U21 ⊢
              replace hg_U21 := Lib.hid hg_U21
              refine D_one (i := 3) (by kernel_rfl) rfl ?_
              intro K hK
              rw [if_pos (by rfl)]
              go_wp2_with fail
              refine (ho'.out U21 t_U21.out).mono ?_; rintro e U22 ⟨⟨u, rfl, hO⟩, hb⟩
              have t_U22 := Lib.hid (Below.then_ t_U21.out hb)
              have z_U22 : w.heap.size + 1 < (U22).heap.size := Nat.lt_of_lt_of_le z_U21 hb.size
              have B_U22 := B_U21.below hb
              have C_U22 := C_U21.below hb
              have R_U22 := Lib.hid (R_U21.out.below hb)
              have N4_U22 := Lib.hid ((hb.block _ (lt_of_block N4_U21.out)).trans N4_U21.out)
              have N5_U22 := Lib.hid ((hb.block _ (lt_of_block N5_U21.out)).trans N5_U21.out)
              obtain ⟨vA, vn, vc, vB, vm, vd, rfl⟩ := hO.shape
              have Q_U22 := Lib.hid (own_kept hO (t_U21.out.size) (fun _ _ _ => rfl))
              clear hO hb
              refine hK _ _ ⟨B_U22, C_U22⟩ (fun _ _ => trivial) ?_
              clear hK K
              try simp only [Act.put, Nat.zero_add, List.getElem_toArray, List.getElem_cons_zero, List.getElem_cons_succ, List.setIfInBounds_toArray, List.set_cons_zero, List.set_cons_succ]
              obtain ⟨p0, p1, p2, p3⟩ := ret_cell N4_U22.out
              refine D_one (i := 6) (by kernel_rfl) rfl ?_
              intro K hK
              rw [if_pos (by rfl)]
              go_simp
              have hcut : TogCut w _ (.slice Aa na ca) (.slice Ab nb cb) (.slice Ac nc cc) (.slice Ad nd cd) Wd.heap.size U18.heap.size (.slice uA un uc) (.slice uB um ud) (.slice vA vn vc) (.slice vB vm vd) r s := tog_cut t_U22.out R_U22.out Q_U22.out B_U22 C_U22 N4_U22.out N5_U22.out z_Wd z_U18 (by omega)
              have n5 := heap_stored (a := .slice uA un uc) (b := .slice uB um ud) N5_U22.out (show U18.heap.size ≠ Wd.heap.size by omega)
              have z4 := z_Wd
              have z5 := z_U18
              refine hK _ _ ⟨B_U22.stored (by omega), C_U22.stored (by omega)⟩ (fun _ _ => trivial) ?_
              clear hK K p0 p1 p2 p3
              try simp only [Act.put, Nat.zero_add, List.getElem_toArray, List.getElem_cons_zero, List.getElem_cons_succ, List.setIfInBounds_toArray, List.set_cons_zero, List.set_cons_succ]
              obtain ⟨p0, p1, p2, p3⟩ := ret_cell n5
              replace n5 := Lib.hid n5
              refine D_one (i := 7) (by kernel_rfl) rfl ?_
              intro K hK
              rw [if_pos (by rfl)]
              go_simp
              refine hK _ _ ⟨hcut.b0, hcut.b1⟩ (fun _ _ => trivial) ?_
              clear hK K p0 p1 p2 p3
              try simp only [Act.put, Nat.zero_add, List.getElem_toArray, List.getElem_cons_zero, List.getElem_cons_succ, List.setIfInBounds_toArray, List.set_cons_zero, List.set_cons_succ]
              refine D_done (by kernel_rfl) ?_ _
              go_wp2_with fail
              go_meet
              exact ⟨_, _, _, _, _, _, _, _, _, _, _, _, _, _, rfl, rfl, hcut⟩
          · intro K hK
            rw [if_pos (by rfl)]
            go_simp
            have hb : Below U17.heap.size U17 (U17.alloc (.cells #[.slice none 0 0, .slice none 0 0] 49)) := (Below.refl _ _).alloc (Nat.le_refl _) _
            have t_U23 := Lib.hid (Below.then_ t_U17.out hb)
            have z_U23 : w.heap.size + 1 < (U17.alloc (.cells #[.slice none 0 0, .slice none 0 0] 49)).heap.size := Nat.lt_of_lt_of_le z_U17 hb.size
            have B_U23 := B_U17.below hb
            have C_U23 := C_U17.below hb
            have N4_U23 := Lib.hid ((hb.block _ (lt_of_block N4_U17.out)).trans N4_U17.out)
            have N5_U23 : Hid ((U17.alloc (.cells #[.slice none 0 0, .slice none 0 0] 49)).heap[U17.heap.size]? = some (.cells #[.slice none 0 0, .slice none 0 0] 49 (0, 0))) := Lib.hid (heap_alloc_new _ _)
            have d45 : Wd.heap.size < U17.heap.size := lt_of_block N4_U17.out
            clear hb
            refine hK _ _ ⟨B_U23, C_U23⟩ (fun _ _ => trivial) ?_
            clear hK K
            try simp only [Act.put, Nat.zero_add, List.getElem_toArray, List.getElem_cons_zero, List.getElem_cons_succ, List.setIfInBounds_toArray, List.set_cons_zero, List.set_cons_succ]
            generalize hg_U23 : U17.alloc (.cells #[.slice none 0 0, .slice none 0 0] 49) = U23 at t_U23 z_U23 B_U23 C_U23 N4_U23 N5_U23 ⊢
            replace hg_U23 := Lib.hid hg_U23
            refine D_one (i := 1) (by kernel_rfl) rfl ?_
            intro K hK
            rw [if_pos (by rfl)]
            go_wp2_with fail
            refine (ho.out U23 t_U23.out).mono ?_; rintro e U24 ⟨⟨u, rfl, hO⟩, hb⟩
            have t_U24 := Lib.hid (Below.then_ t_U23.out hb)
            have z_U24 : w.heap.size + 1 < (U24).heap.size := Nat.lt_of_lt_of_le z_U23 hb.size
            have B_U24 := B_U23.below hb
            have C_U24 := C_U23.below hb
            have N4_U24 := Lib.hid ((hb.block _ (lt_of_block N4_U23.out)).trans N4_U23.out)
            have N5_U24 := Lib.hid ((hb.block _ (lt_of_block N5_U23.out)).trans N5_U23.out)
            obtain ⟨uA, un, uc, uB, um, ud, rfl⟩ := hO.shape
            have R_U24 := Lib.hid (own_kept hO (t_U23.out.size) (fun _ _ _ => rfl))
            clear hO hb
            refine hK _ _ ⟨B_U24, C_U24⟩ (fun _ _ => trivial) ?_
            clear hK K
            try simp only [Act.put, Nat.zero_add, List.getElem_toArray, List.getElem_cons_zero, List.getElem_cons_succ, List.setIfInBounds_toArray, List.set_cons_zero, List.set_cons_succ]
            refine D_one (i := 3) (by kernel_rfl) rfl ?_
            intro K hK
            rw [if_pos (by rfl)]
            go_wp2_with fail
            refine (ho'.out U24 t_U24.out).mono ?_; rintro e U25 ⟨⟨u, rfl, hO⟩, hb⟩
            have t_U25 := Lib.hid (Below.then_ t_U24.out hb)
            have z_U25 : w.heap.size + 1 < (U25).heap.size := Nat.lt_of_lt_of_le z_U24 hb.size
            have B_U25 := B_U24.below hb
            have C_U25 := C_U24.below hb
            have R_U25 := Lib.hid (R_U24.out.below hb)
            have N4_U25 := Lib.hid ((hb.block _ (lt_of_block N4_U24.out)).trans N4_U24.out)
            have N5_U25 := Lib.hid ((hb.block _ (lt_of_block N5_U24.out)).trans N5_U24.out)
            obtain ⟨vA, vn, vc, vB, vm, vd, rfl⟩ := hO.shape
            have Q_U25 := Lib.hid (own_kept hO (t_U24.out.size) (fun _ _ _ => rfl))
            clear hO hb
            refine hK _ _ ⟨B_U25, C_U25⟩ (fun _ _ => trivial) ?_
            clear hK K
            try simp only [Act.put, Nat.zero_add, List.getElem_toArray, List.getElem_cons_zero, List.getElem_cons_succ, List.setIfInBounds_toArray, List.set_cons_zero, List.set_cons_succ]
            obtain ⟨p0, p1, p2, p3⟩ := ret_cell N4_U25.out
            refine D_one (i := 6) (by kernel_rfl) rfl ?_
            intro K hK
            rw [if_pos (by rfl)]
            go_simp
            have hcut : TogCut w _ (.slice Aa na ca) (.slice Ab nb cb) (.slice Ac nc cc) (.slice Ad nd cd) Wd.heap.size U17.heap.size (.slice uA un uc) (.slice uB um ud) (.slice vA vn vc) (.slice vB vm vd) r s := tog_cut t_U25.out R_U25.out Q_U25.out B_U25 C_U25 N4_U25.out N5_U25.out z_Wd z_U17 (by omega)
            have n5 := heap_stored (a := .slice uA un uc) (b := .slice uB um ud) N5_U25.out (show U17.heap.size ≠ Wd.heap.size by omega)
            have z4 := z_Wd
            have z5 := z_U17
            refine hK _ _ ⟨B_U25.stored (by omega), C_U25.stored (by omega)⟩ (fun _ _ => trivial) ?_
            clear hK K p0 p1 p2 p3
            try simp only [Act.put, Nat.zero_add, List.getElem_toArray, List.getElem_cons_zero, List.getElem_cons_succ, List.setIfInBounds_toArray, List.set_cons_zero, List.set_cons_succ]
            obtain ⟨p0, p1, p2, p3⟩ := ret_cell n5
            replace n5 := Lib.hid n5
            refine D_one (i := 7) (by kernel_rfl) rfl ?_
            intro K hK
            rw [if_pos (by rfl)]
            go_simp
            refine hK _ _ ⟨hcut.b0, hcut.b1⟩ (fun _ _ => trivial) ?_
            clear hK K p0 p1 p2 p3
            try simp only [Act.put, Nat.zero_add, List.getElem_toArray, List.getElem_cons_zero, List.getElem_cons_succ, List.setIfInBounds_toArray, List.set_cons_zero, List.set_cons_succ]
            refine D_done (by kernel_rfl) ?_ _
            go_wp2_with fail
            go_meet
            exact ⟨_, _, _, _, _, _, _, _, _, _, _, _, _, _, rfl, rfl, hcut⟩
        · intro K hK
          rw [if_pos (by rfl)]
          go_simp
          have hb : Below Wd.heap.size Wd (Wd.alloc (.cells #[.slice none 0 0, .slice none 0 0] 49)) := (Below.refl _ _).alloc (Nat.le_refl _) _
          have t_U26 := Lib.hid (Below.then_ t_Wd.out hb)
          have z_U26 : w.heap.size + 1 < (Wd.alloc (.cells #[.slice none 0 0, .slice none 0 0] 49)).heap.size := Nat.lt_of_lt_of_le z_Wd hb.size
          have B_U26 := B_Wd.below hb
          have C_U26 := C_Wd.below hb
          have N5_U26 : Hid ((Wd.alloc (.cells #[.slice none 0 0, .slice none 0 0] 49)).heap[Wd.heap.size]? = some (.cells #[.slice none 0 0, .slice none 0 0] 49 (0, 0))) := Lib.hid (heap_alloc_new _ _)
          clear hb
          refine hK _ _ ⟨B_U26, C_U26⟩ (fun _ _ => trivial) ?_
          clear hK K
          try simp only [Act.put, Nat.zero_add, List.getElem_toArray, List.getElem_cons_zero, List.getElem_cons_succ, List.setIfInBounds_toArray, List.set_cons_zero, List.set_cons_succ]
          generalize hg_U26 : Wd.alloc (.cells #[.slice none 0 0, .slice none 0 0] 49) = U26 at t_U26 z_U26 B_U26 C_U26 N5_U26 ⊢
          replace hg_U26 := Lib.hid hg_U26
          refine D_two (i := 1) (j := 4) (by kernel_rfl) rfl rfl ?_ ?_
          · intro K hK
            rw [if_pos (by rfl)]
            go_wp2_with fail
            refine (ho.out U26 t_U26.out).mono ?_; rintro e U27 ⟨⟨u, rfl, hO⟩, hb⟩
            have t_U27 := Lib.hid (Below.then_ t_U26.out hb)
            have z_U27 : w.heap.size + 1 < (U27).heap.size := Nat.lt_of_lt_of_le z_U26 hb.size
            have B_U27 := B_U26.below hb
            have C_U27 := C_U26.below hb
            have N5_U27 := Lib.hid ((hb.block _ (lt_of_block N5_U26.out)).trans N5_U26.out)
            obtain ⟨uA, un, uc, uB, um, ud, rfl⟩ := hO.shape
            have R_U27 := Lib.hid (own_kept hO (t_U26.out.size) (fun _ _ _ => rfl))
            clear hO hb
            refine hK _ _ ⟨B_U27, C_U27⟩ (fun _ _ => trivial) ?_
            clear hK K
            try simp only [Act.put, Nat.zero_add, List.getElem_toArray, List.getElem_cons_zero, List.getElem_cons_succ, List.setIfInBounds_toArray, List.set_cons_zero, List.set_cons_succ]
            refine D_two (i := 3) (j := 4) (by kernel_rfl) rfl rfl ?_ ?_
            · intro K hK
              rw [if_pos (by rfl)]
              go_wp2_with fail
              refine (ho'.out U27 t_U27.out).mono ?_; rintro e U28 ⟨⟨u, rfl, hO⟩, hb⟩
              have t_U28 := Lib.hid (Below.then_ t_U27.out hb)
              have z_U28 : w.heap.size + 1 < (U28).heap.size := Nat.lt_of_lt_of_le z_U27 hb.size
              have B_U28 := B_U27.below hb
              have C_U28 := C_U27.below hb
              have R_U28 := Lib.hid (R_U27.out.below hb)
              have N5_U28 := Lib.hid ((hb.block _ (lt_of_block N5_U27.out)).trans N5_U27.out)
              obtain ⟨vA, vn, vc, vB, vm, vd, rfl⟩ := hO.shape
              have Q_U28 := Lib.hid (own_kept hO (t_U27.out.size) (fun _ _ _ => rfl))
              clear hO hb
              refine hK _ _ ⟨B_U28, C_U28⟩ (fun _ _ => trivial) ?_
              clear hK K
              try simp only [Act.put, Nat.zero_add, List.getElem_toArray, List.getElem_cons_zero, List.getElem_cons_succ, List.setIfInBounds_toArray, List.set_cons_zero, List.set_cons_succ]
              refine D_one (i := 4) (by kernel_rfl) rfl ?_
              intro K hK
              rw [if_pos (by rfl)]
              go_simp
              have hb : Below U28.heap.size U28 (U28.alloc (.cells #[.slice none 0 0, .slice none 0 0] 49)) := (Below.refl _ _).alloc (Nat.le_refl _) _
              have t_U29 := Lib.hid (Below.then_ t_U28.out hb)
              have z_U29 : w.heap.size + 1 < (U28.alloc (.cells #[.slice none 0 0, .slice none 0 0] 49)).heap.size := Nat.lt_of_lt_of_le z_U28 hb.size
              have B_U29 := B_U28.below hb
              have C_U29 := C_U28.below hb
              have R_U29 := Lib.hid (R_U28.out.below hb)
              have Q_U29 := Lib.hid (Q_U28.out.below hb)
              have N5_U29 := Lib.hid ((hb.block _ (lt_of_block N5_U28.out)).trans N5_U28.out)
              have N4_U29 : Hid ((U28.alloc (.cells #[.slice none 0 0, .slice none 0 0] 49)).heap[U28.heap.size]? = some (.cells #[.slice none 0 0, .slice none 0 0] 49 (0, 0))) := Lib.hid (heap_alloc_new _ _)
              have d45 : Wd.heap.size < U28.heap.size := lt_of_block N5_U28.out
              clear hb
              refine hK _ _ ⟨B_U29, C_U29⟩ (fun _ _ => trivial) ?_
              clear hK K
              try simp only [Act.put, Nat.zero_add, List.getElem_toArray, List.getElem_cons_zero, List.getElem_cons_succ, List.setIfInBounds_toArray, List.set_cons_zero, List.set_cons_succ]
              generalize hg_U29 : U28.alloc (.cells #[.slice none 0 0, .slice none 0 0] 49) = U29 at t_U29 z_U29 B_U29 C_U29 R_U29 Q_U29 N5_U29 N4_U29 ⊢
              replace hg_U29 := Lib.hid hg_U29
              obtain ⟨p0, p1, p2, p3⟩ := ret_cell N4_U29.out
              refine D_one (i := 6) (by kernel_rfl) rfl ?_
              intro K hK
              rw [if_pos (by rfl)]
              go_simp
              have hcut : TogCut w _ (.slice Aa na ca) (.slice Ab nb cb) (.slice Ac nc cc) (.slice Ad nd cd) U28.heap.size Wd.heap.size (.slice uA un uc) (.slice uB um ud) (.slice vA vn vc) (.slice vB vm vd) r s := tog_cut t_U29.out R_U29.out Q_U29.out B_U29 C_U29 N4_U29.out N5_U29.out z_U28 z_Wd (by omega)
              have n5 := heap_stored (a := .slice uA un uc) (b := .slice uB um ud) N5_U29.out (show Wd.heap.size ≠ U28.heap.size by omega)
              have z4 := z_U28
              have z5 := z_Wd
              refine hK _ _ ⟨B_U29.stored (by omega), C_U29.stored (by omega)⟩ (fun _ _ => trivial) ?_
              clear hK K p0 p1 p2 p3
              try simp only [Act.put, Nat.zero_add, List.getElem_toArray, List.getElem_cons_zero, List.getElem_cons_succ, List.setIfInBounds_toArray, List.set_cons_zero, List.set_cons_succ]
              obtain ⟨p0, p1, p2, p3⟩ := ret_cell n5
              replace n5 := Lib.hid n5
              refine D_one (i := 7) (by kernel_rfl) rfl ?_
              intro K hK
              rw [if_pos (by rfl)]
              go_simp
              refine hK _ _ ⟨hcut.b0, hcut.b1⟩ (fun _ _ => trivial) ?_
              clear hK K p0 p1 p2 p3
              try simp only [Act.put, Nat.zero_add, List.getElem_toArray, List.getElem_cons_zero, List.getElem_cons_succ, List.setIfInBounds_toArray, List.set_cons_zero, List.set_cons_succ]
              refine D_done (by kernel_rfl) ?_ _
              go_wp2_with fail
              go_meet
              exact ⟨_, _, _, _, _, _, _, _, _, _, _, _, _, _, rfl, rfl, hcut⟩
            · intro K hK
              rw [if_pos (by rfl)]
              go_simp
              have hb : Below U27.heap.size U27 (U27.alloc (.cells #[.slice none 0 0, .slice none 0 0] 49)) := (Below.refl _ _).alloc (Nat.le_refl _) _
              have t_U30 := Lib.hid (Below.then_ t_U27.out hb)
              have z_U30 : w.heap.size + 1 < (U27.alloc (.cells #[.slice none 0 0, .slice none 0 0] 49)).heap.size := Nat.lt_of_lt_of_le z_U27 hb.size
              have B_U30 := B_U27.below hb
              have C_U30 := C_U27.below hb
              have R_U30 := Lib.hid (R_U27.out.below hb)
              have N5_U30 := Lib.hid ((hb.block _ (lt_of_block N5_U27.out)).trans N5_U27.out)
              have N4_U30 : Hid ((U27.alloc (.cells #[.slice none 0 0, .slice none 0 0] 49)).heap[U27.heap.size]? = some (.cells #[.slice none 0 0, .slice none 0 0] 49 (0, 0))) := Lib.hid (heap_alloc_new _ _)
              have d45 : Wd.heap.size < U27.heap.size := lt_of_block N5_U27.out
              clear hb
              refine hK _ _ ⟨B_U30, C_U30⟩ (fun _ _ => trivial) ?_
              clear hK K
              try simp only [Act.put, Nat.zero_add, List.getElem_toArray, List.getElem_cons_zero, List.getElem_cons_succ, List.setIfInBounds_toArray, List.set_cons_zero, List.set_cons_succ]
              generalize hg_U30 : U27.alloc (.cells #[.slice none 0 0, .slice none 0 0] 49) = U30 at t_U30 z_U30 B_U30 C_U30 R_U30 N5_U30 N4_U30 ⊢
              replace hg_U30 := Lib.hid hg_U30
              refine D_one (i := 3) (by kernel_rfl) rfl ?_
              intro K hK
              rw [if_pos (by rfl)]
              go_wp2_with fail
              refine (ho'.out U30 t_U30.out).mono ?_; rintro e U31 ⟨⟨u, rfl, hO⟩, hb⟩
              have t_U31 := Lib.hid (Below.then_ t_U30.out hb)
              have z_U31 : w.heap.size + 1 < (U31).heap.size := Nat.lt_of_lt_of_le z_U30 hb.size
              have B_U31 := B_U30.below hb
              have C_U31 := C_U30.below hb
              have R_U31 := Lib.hid (R_U30.out.below hb)
              have N4_U31 := Lib.hid ((hb.block _ (lt_of_block N4_U30.out)).trans N4_U30.out)
              have N5_U31 := Lib.hid ((hb.block _ (lt_of_block N5_U30.out)).trans N5_U30.out)
              obtain ⟨vA, vn, vc, vB, vm, vd, rfl⟩ := hO.shape
              have Q_U31 := Lib.hid (own_kept hO (t_U30.out.size) (fun _ _ _ => rfl))
              clear hO hb
              refine hK _ _ ⟨B_U31, C_U31⟩ (fun _ _ => trivial) ?_
              clear hK K
              try simp only [Act.put, Nat.zero_add, List.getElem_toArray, List.getElem_cons_zero, List.getElem_cons_succ, List.setIfInBounds_toArray, List.set_cons_zero, List.set_cons_succ]
              obtain ⟨p0, p1, p2, p3⟩ := ret_cell N4_U31.out
              refine D_one (i := 6) (by kernel_rfl) rfl ?_
              intro K hK
              rw [if_pos (by rfl)]
              go_simp
              have hcut : TogCut w _ (.slice Aa na ca) (.slice Ab nb cb) (.slice Ac nc cc) (.slice Ad nd cd) U27.heap.size Wd.heap.size (.slice uA un uc) (.slice uB um ud) (.slice vA vn vc) (.slice vB vm vd) r s := tog_cut t_U31.out R_U31.out Q_U31.out B_U31 C_U31 N4_U31.out N5_U31.out z_U27 z_Wd (by omega)
              have n5 := heap_stored (a := .slice uA un uc) (b := .slice uB um ud) N5_U31.out (show Wd.heap.size ≠ U27.heap.size by omega)
              have z4 := z_U27
              have z5 := z_Wd
              refine hK _ _ ⟨B_U31.stored (by omega), C_U31.stored (by omega)⟩ (fun _ _ => trivial) ?_
              clear hK K p0 p1 p2 p3
              try simp only [Act.put, Nat.zero_add, List.getElem_toArray, List.getElem_cons_zero, List.getElem_cons_succ, List.setIfInBounds_toArray, List.set_cons_zero, List.set_cons_succ]
              obtain ⟨p0, p1, p2, p3⟩ := ret_cell n5
              replace n5 := Lib.hid n5
              refine D_one (i := 7) (by kernel_rfl) rfl ?_
              intro K hK
              rw [if_pos (by rfl)]
              go_simp
              refine hK _ _ ⟨hcut.b0, hcut.b1⟩ (fun _ _ => trivial) ?_
              clear hK K p0 p1 p2 p3
              try simp only [Act.put, Nat.zero_add, List.getElem_toArray, List.getElem_cons_zero, List.getElem_cons_succ, List.setIfInBounds_toArray, List.set_cons_zero, List.set_cons_succ]
              refine D_done (by kernel_rfl) ?_ _
              go_wp2_with fail
              go_meet
              exact ⟨_, _, _, _, _, _, _, _, _, _, _, _, _, _, rfl, rfl, hcut⟩
          · intro K hK
            rw [if_pos (by rfl)]
            go_simp
            have hb : Below U26.heap.size U26 (U26.alloc (.cells #[.slice none 0 0, .slice none 0 0] 49)) := (Below.refl _ _).alloc (Nat.le_refl _) _
            have t_U32 := Lib.hid (Below.then_ t_U26.out hb)
            have z_U32 : w.heap.size + 1 < (U26.alloc (.cells #[.slice none 0 0, .slice none 0 0] 49)).heap.size := Nat.lt_of_lt_of_le z_U26 hb.size
            have B_U32 := B_U26.below hb
            have C_U32 := C_U26.below hb
            have N5_U32 := Lib.hid ((hb.block _ (lt_of_block N5_U26.out)).trans N5_U26.out)
            have N4_U32 : Hid ((U26.alloc (.cells #[.slice none 0 0, .slice none 0 0] 49)).heap[U26.heap.size]? = some (.cells #[.slice none 0 0, .slice none 0 0] 49 (0, 0))) := Lib.hid (heap_alloc_new _ _)
            have d45 : Wd.heap.size < U26.heap.size := lt_of_block N5_U26.out
            clear hb
            refine hK _ _ ⟨B_U32, C_U32⟩ (fun _ _ => trivial) ?_
            clear hK K
            try simp only [Act.put, Nat.zero_add, List.getElem_toArray, List.getElem_cons_zero, List.getElem_cons_succ, List.setIfInBounds_toArray, List.set_cons_zero, List.set_cons_succ]
            generalize hg_U32 : U26.alloc (.cells #[.slice none 0 0, .slice none 0 0] 49) = U32 at t_U32 z_U32 B_U32 C_U32 N5_U32 N4_U32 ⊢
            replace hg_U32 := Lib.hid hg_U32
            refine D_one (i := 1) (by kernel_rfl) rfl ?_
            intro K hK
            rw [if_pos (by rfl)]
            go_wp2_with fail
            refine (ho.out U32 t_U32.out).mono ?_; rintro e U33 ⟨⟨u, rfl, hO⟩, hb⟩
            have t_U33 := Lib.hid (Below.then_ t_U32.out hb)
            have z_U33 : w.heap.size + 1 < (U33).heap.size := Nat.lt_of_lt_of_le z_U32 hb.size
            have B_U33 := B_U32.below hb
            have C_U33 := C_U32.below hb
            have N4_U33 := Lib.hid ((hb.block _ (lt_of_block N4_U32.out)).trans N4_U32.out)
            have N5_U33 := Lib.hid ((hb.block _ (lt_of_block N5_U32.out)).trans N5_U32.out)
            obtain ⟨uA, un, uc, uB, um, ud, rfl⟩ := hO.shape
            have R_U33 := Lib.hid (own_kept hO (t_U32.out.size) (fun _ _ _ => rfl))
            clear hO hb
            refine hK _ _ ⟨B_U33, C_U33⟩ (fun _ _ => trivial) ?_
            clear hK K
            try simp only [Act.put, Nat.zero_add, List.getElem_toArray, List.getElem_cons_zero, List.getElem_cons_succ, List.setIfInBounds_toArray, List.set_cons_zero, List.set_cons_succ]
            refine D_one (i := 3) (by kernel_rfl) rfl ?_
            intro K hK
            rw [if_pos (by rfl)]
            go_wp2_with fail
            refine (ho'.out U33 t_U33.out).mono ?_; rintro e U34 ⟨⟨u, rfl, hO⟩, hb⟩
            have t_U34 := Lib.hid (Below.then_ t_U33.out hb)
            have z_U34 : w.heap.size + 1 < (U34).heap.size := Nat.lt_of_lt_of_le z_U33 hb.size
            have B_U34 := B_U33.below hb
            have C_U34 := C_U33.below hb
            have R_U34 := Lib.hid (R_U33.out.below hb)
            have N4_U34 := Lib.hid ((hb.block _ (lt_of_block N4_U33.out)).trans N4_U33.out)
            have N5_U34 := Lib.hid ((hb.block _ (lt_of_block N5_U33.out)).trans N5_U33.out)
            obtain ⟨vA, vn, vc, vB, vm, vd, rfl⟩ := hO.shape
            have Q_U34 := Lib.hid (own_kept hO (t_U33.out.size) (fun _ _ _ => rfl))
            clear hO hb
            refine hK _ _ ⟨B_U34, C_U34⟩ (fun _ _ => trivial) ?_
            clear hK K
            try simp only [Act.put, Nat.zero_add, List.getElem_toArray, List.getElem_cons_zero, List.getElem_cons_succ, List.setIfInBounds_toArray, List.set_cons_zero, List.set_cons_succ]
            obtain ⟨p0, p1, p2, p3⟩ := ret_cell N4_U34.out
            refine D_one (i := 6) (by kernel_rfl) rfl ?_
            intro K hK
            rw [if_pos (by rfl)]
            go_simp
            have hcut : TogCut w _ (.slice Aa na ca) (.slice Ab nb cb) (.slice Ac nc cc) (.slice Ad nd cd) U26.heap.size Wd.heap.size (.slice uA un uc) (.slice uB um ud) (.slice vA vn vc) (.slice vB vm vd) r s := tog_cut t_U34.out R_U34.out Q_U34.out B_U34 C_U34 N4_U34.out N5_U34.out z_U26 z_Wd (by omega)
            have n5 := heap_stored (a := .slice uA un uc) (b := .slice uB um ud) N5_U34.out (show Wd.heap.size ≠ U26.heap.size by omega)
            have z4 := z_U26
            have z5 := z_Wd
            refine hK _ _ ⟨B_U34.stored (by omega), C_U34.stored (by omega)⟩ (fun _ _ => trivial) ?_
            clear hK K p0 p1 p2 p3
            try simp only [Act.put, Nat.zero_add, List.getElem_toArray, List.getElem_cons_zero, List.getElem_cons_succ, List.setIfInBounds_toArray, List.set_cons_zero, List.set_cons_succ]
            obtain ⟨p0, p1, p2, p3⟩ := ret_cell n5
            replace n5 := Lib.hid n5
            refine D_one (i := 7) (by kernel_rfl) rfl ?_
            intro K hK
            rw [if_pos (by rfl)]
            go_simp
            refine hK _ _ ⟨hcut.b0, hcut.b1⟩ (fun _ _ => trivial) ?_
            clear hK K p0 p1 p2 p3
            try simp only [Act.put, Nat.zero_add, List.getElem_toArray, List.getElem_cons_zero, List.getElem_cons_succ, List.setIfInBounds_toArray, List.set_cons_zero, List.set_cons_succ]
            refine D_done (by kernel_rfl) ?_ _
            go_wp2_with fail
            go_meet
            exact ⟨_, _, _, _, _, _, _, _, _, _, _, _, _, _, rfl, rfl, hcut⟩
      case rest =>
        obtain ⟨G1, G2, uA, un, uc, uB, um, ud, vA, vn, vc, vB, vm, vd, rfl, rfl, hcut⟩ := hcut
        rename World => A2
        obtain ⟨hT2, hRr, hQs, B0', B1', C0, C1⟩ := hcut
        replace hT := Lib.hid hT2
        clear B0 B1 hT2
        have ru := Lib.hid (hRr.rd l1.out l2.out)
        have rq := Lib.hid (hQs.rd l3.out l4.out)
        clear hRr hQs ho ho' hg hg'
        obtain ⟨X0_0, X0_1⟩ := B0'
        obtain ⟨X1_0, X1_1⟩ := B1'
        obtain ⟨X2_0, X2_1⟩ := C0
        obtain ⟨X3_0, X3_1⟩ := C1
        go_wp2_with fail
        refine (t0.out A2 hT.out).mono ?_; rintro e A3 ⟨rfl, hN1⟩
        replace hT := Lib.hid (Below.then_ hT.out hN1)
        replace X0_0 := (hN1.cell (World.block_lt_of_cell? _ _ X0_0)).trans X0_0
        replace X0_1 := (hN1.cell (World.block_lt_of_cell? _ _ X0_1)).trans X0_1
        replace X1_0 := (hN1.cell (World.block_lt_of_cell? _ _ X1_0)).trans X1_0
        replace X1_1 := (hN1.cell (World.block_lt_of_cell? _ _ X1_1)).trans X1_1
        replace X2_0 := (hN1.cell (World.block_lt_of_cell? _ _ X2_0)).trans X2_0
        replace X2_1 := (hN1.cell (World.block_lt_of_cell? _ _ X2_1)).trans X2_1
        replace X3_0 := (hN1.cell (World.block_lt_of_cell? _ _ X3_0)).trans X3_0
        replace X3_1 := (hN1.cell (World.block_lt_of_cell? _ _ X3_1)).trans X3_1
        replace ru := Lib.hid (ru.out.below hN1 (Nat.le_refl _))
        replace rq := Lib.hid (rq.out.below hN1 (Nat.le_refl _))
        have z_A3 := hN1.size; clear hN1
        go_wp2_with fail
        refine (t1.out A3 hT.out).mono ?_; rintro e A4 ⟨fv, rfl, of, hN2⟩
        replace hT := Lib.hid (Below.then_ hT.out hN2)
        replace X0_0 := (hN2.cell (World.block_lt_of_cell? _ _ X0_0)).trans X0_0
        replace X0_1 := (hN2.cell (World.block_lt_of_cell? _ _ X0_1)).trans X0_1
        replace X1_0 := (hN2.cell (World.block_lt_of_cell? _ _ X1_0)).trans X1_0
        replace X1_1 := (hN2.cell (World.block_lt_of_cell? _ _ X1_1)).trans X1_1
        replace X2_0 := (hN2.cell (World.block_lt_of_cell? _ _ X2_0)).trans X2_0
        replace X2_1 := (hN2.cell (World.block_lt_of_cell? _ _ X2_1)).trans X2_1
        replace X3_0 := (hN2.cell (World.block_lt_of_cell? _ _ X3_0)).trans X3_0
        replace X3_1 := (hN2.cell (World.block_lt_of_cell? _ _ X3_1)).trans X3_1
        replace ru := Lib.hid (ru.out.below hN2 (Nat.le_refl _))
        replace rq := Lib.hid (rq.out.below hN2 (Nat.le_refl _))
        have z_A4 := hN2.size; clear hN2
        change OwnR _ _ _ F at of
        have rf := Lib.hid (of.rd (by have := lF.out.1; omega) (by have := lF.out.2; omega))
        obtain ⟨fA, fn, fc, fB, fm, fd, rfl⟩ := of.shape
        clear of
        obtain ⟨hN3, X4_0, X4_1, X4_z⟩ := box_new A4 (.slice fA fn fc) (.slice fB fm fd) 49
        replace hT := Lib.hid (Below.then_ hT.out hN3)
        replace X0_0 := (hN3.cell (World.block_lt_of_cell? _ _ X0_0)).trans X0_0
        replace X0_1 := (hN3.cell (World.block_lt_of_cell? _ _ X0_1)).trans X0_1
        replace X1_0 := (hN3.cell (World.block_lt_of_cell? _ _ X1_0)).trans X1_0
        replace X1_1 := (hN3.cell (World.block_lt_of_cell? _ _ X1_1)).trans X1_1
        replace X2_0 := (hN3.cell (World.block_lt_of_cell? _ _ X2_0)).trans X2_0
        replace X2_1 := (hN3.cell (World.block_lt_of_cell? _ _ X2_1)).trans X2_1
        replace X3_0 := (hN3.cell (World.block_lt_of_cell? _ _ X3_0)).trans X3_0
        replace X3_1 := (hN3.cell (World.block_lt_of_cell? _ _ X3_1)).trans X3_1
        replace ru := Lib.hid (ru.out.below hN3 (Nat.le_refl _))
        replace rq := Lib.hid (rq.out.below hN3 (Nat.le_refl _))
        replace rf := Lib.hid (rf.out.below hN3 (Nat.le_refl _))
        go_wp2_with fail
        generalize A4.alloc (.cells #[.slice fA fn fc, .slice fB fm fd] 49) = X4 at *
        clear hN3
        refine (t2.out X4 hT.out).mono ?_; rintro e A5 ⟨ev, rfl, of, hN4⟩
        replace hT := Lib.hid (Below.then_ hT.out hN4)
        replace X0_0 := (hN4.cell (World.block_lt_of_cell? _ _ X0_0)).trans X0_0
        replace X0_1 := (hN4.cell (World.block_lt_of_cell? _ _ X0_1)).trans X0_1
        replace X1_0 := (hN4.cell (World.block_lt_of_cell? _ _ X1_0)).trans X1_0
        replace X1_1 := (hN4.cell (World.block_lt_of_cell? _ _ X1_1)).trans X1_1
        replace X2_0 := (hN4.cell (World.block_lt_of_cell? _ _ X2_0)).trans X2_0
        replace X2_1 := (hN4.cell (World.block_lt_of_cell? _ _ X2_1)).trans X2_1
        replace X3_0 := (hN4.cell (World.block_lt_of_cell? _ _ X3_0)).trans X3_0
        replace X3_1 := (hN4.cell (World.block_lt_of_cell? _ _ X3_1)).trans X3_1
        replace ru := Lib.hid (ru.out.below hN4 (Nat.le_refl _))
        replace rq := Lib.hid (rq.out.below hN4 (Nat.le_refl _))
        replace rf := Lib.hid (rf.out.below hN4 (Nat.le_refl _))
        replace X4_0 := (hN4.cell (World.block_lt_of_cell? _ _ X4_0)).trans X4_0
        replace X4_1 := (hN4.cell (World.block_lt_of_cell? _ _ X4_1)).trans X4_1
        have z_A5 := hN4.size; clear hN4
        change OwnR _ _ _ E at of
        have re := Lib.hid (of.rd (by have := lE.out.1; omega) (by have := lE.out.2; omega))
        obtain ⟨eA, en, ec, eB, em, ed, rfl⟩ := of.shape
        clear of
        obtain ⟨hN5, X5_0, X5_1, X5_z⟩ := box_new A5 (.slice eA en ec) (.slice eB em ed) 49
        replace hT := Lib.hid (Below.then_ hT.out hN5)
        replace X0_0 := (hN5.cell (World.block_lt_of_cell? _ _ X0_0)).trans X0_0
        replace X0_1 := (hN5.cell (World.block_lt_of_cell? _ _ X0_1)).trans X0_1
        replace X1_0 := (hN5.cell (World.block_lt_of_cell? _ _ X1_0)).trans X1_0
        replace X1_1 := (hN5.cell (World.block_lt_of_cell? _ _ X1_1)).trans X1_1
        replace X2_0 := (hN5.cell (World.block_lt_of_cell? _ _ X2_0)).trans X2_0
        replace X2_1 := (hN5.cell (World.block_lt_of_cell? _ _ X2_1)).trans X2_1
        replace X3_0 := (hN5.cell (World.block_lt_of_cell? _ _ X3_0)).trans X3_0
        replace X3_1 := (hN5.cell (World.block_lt_of_cell? _ _ X3_1)).trans X3_1
        replace ru := Lib.hid (ru.out.below hN5 (Nat.le_refl _))
        replace rq := Lib.hid (rq.out.below hN5 (Nat.le_refl _))
        replace rf := Lib.hid (rf.out.below hN5 (Nat.le_refl _))
        replace X4_0 := (hN5.cell (World.block_lt_of_cell? _ _ X4_0)).trans X4_0
        replace X4_1 := (hN5.cell (World.block_lt_of_cell? _ _ X4_1)).trans X4_1
        replace re := Lib.hid (re.out.below hN5 (Nat.le_refl _))
        go_wp2_with fail
        generalize A5.alloc (.cells #[.slice eA en ec, .slice eB em ed] 49) = X5 at *
        clear hN5
        refine (t3.out X5 hT.out).mono ?_; rintro e A6 ⟨kv, rfl, of, hN6⟩
        replace hT := Lib.hid (Below.then_ hT.out hN6)
        replace X0_0 := (hN6.cell (World.block_lt_of_cell? _ _ X0_0)).trans X0_0
        replace X0_1 := (hN6.cell (World.block_lt_of_cell? _ _ X0_1)).trans X0_1
        replace X1_0 := (hN6.cell (World.block_lt_of_cell? _ _ X1_0)).trans X1_0
        replace X1_1 := (hN6.cell (World.block_lt_of_cell? _ _ X1_1)).trans X1_1
        replace X2_0 := (hN6.cell (World.block_lt_of_cell? _ _ X2_0)).trans X2_0
        replace X2_1 := (hN6.cell (World.block_lt_of_cell? _ _ X2_1)).trans X2_1
        replace X3_0 := (hN6.cell (World.block_lt_of_cell? _ _ X3_0)).trans X3_0
        replace X3_1 := (hN6.cell (World.block_lt_of_cell? _ _ X3_1)).trans X3_1
        replace ru := Lib.hid (ru.out.below hN6 (Nat.le_refl _))
        replace rq := Lib.hid (rq.out.below hN6 (Nat.le_refl _))
        replace rf := Lib.hid (rf.out.below hN6 (Nat.le_refl _))
        replace X4_0 := (hN6.cell (World.block_lt_of_cell? _ _ X4_0)).trans X4_0
        replace X4_1 := (hN6.cell (World.block_lt_of_cell? _ _ X4_1)).trans X4_1
        replace re := Lib.hid (re.out.below hN6 (Nat.le_refl _))
        replace X5_0 := (hN6.cell (World.block_lt_of_cell? _ _ X5_0)).trans X5_0
        replace X5_1 := (hN6.cell (World.block_lt_of_cell? _ _ X5_1)).trans X5_1
        have z_A6 := hN6.size; clear hN6
        change OwnR _ _ _ H at of
        have rk := Lib.hid (of.rd (by have := lH.out.1; omega) (by have := lH.out.2; omega))
        obtain ⟨kA, kn, kc, kB, km, kd, rfl⟩ := of.shape
        clear of
        obtain ⟨hN7, P0_0, P0_1, P0_z⟩ := box_new A6 (.slice kA kn kc) (.slice kB km kd) 49
        replace hT := Lib.hid (Below.then_ hT.out hN7)
        replace X0_0 := (hN7.cell (World.block_lt_of_cell? _ _ X0_0)).trans X0_0
        replace X0_1 := (hN7.cell (World.block_lt_of_cell? _ _ X0_1)).trans X0_1
        replace X1_0 := (hN7.cell (World.block_lt_of_cell? _ _ X1_0)).trans X1_0
        replace X1_1 := (hN7.cell (World.block_lt_of_cell? _ _ X1_1)).trans X1_1
        replace X2_0 := (hN7.cell (World.block_lt_of_cell? _ _ X2_0)).trans X2_0
        replace X2_1 := (hN7.cell (World.block_lt_of_cell? _ _ X2_1)).trans X2_1
        replace X3_0 := (hN7.cell (World.block_lt_of_cell? _ _ X3_0)).trans X3_0
        replace X3_1 := (hN7.cell (World.block_lt_of_cell? _ _ X3_1)).trans X3_1
        replace ru := Lib.hid (ru.out.below hN7 (Nat.le_refl _))
        replace rq := Lib.hid (rq.out.below hN7 (Nat.le_refl _))
        replace rf := Lib.hid (rf.out.below hN7 (Nat.le_refl _))
        replace X4_0 := (hN7.cell (World.block_lt_of_cell? _ _ X4_0)).trans X4_0
        replace X4_1 := (hN7.cell (World.block_lt_of_cell? _ _ X4_1)).trans X4_1
        replace re := Lib.hid (re.out.below hN7 (Nat.le_refl _))
        replace X5_0 := (hN7.cell (World.block_lt_of_cell? _ _ X5_0)).trans X5_0
        replace X5_1 := (hN7.cell (World.block_lt_of_cell? _ _ X5_1)).trans X5_1
        replace rk := Lib.hid (rk.out.below hN7 (Nat.le_refl _))
        go_wp2_with fail
        generalize A6.alloc (.cells #[.slice kA kn kc, .slice kB km kd] 49) = P0 at *
        clear hN7
        clear t0 t1 t2 t3
        have hP := Lib.hid (Below.refl P0.heap.size P0)
        have ru' := Lib.hid (fun W (hW : Below P0.heap.size P0 W) => ru.out.below hW (Nat.le_refl _))
        have rq' := Lib.hid (fun W (hW : Below P0.heap.size P0 W) => rq.out.below hW (Nat.le_refl _))
        have rf' := Lib.hid (fun W (hW : Below P0.heap.size P0 W) => rf.out.below hW (Nat.le_refl _))
        have re' := Lib.hid (fun W (hW : Below P0.heap.size P0 W) => re.out.below hW (Nat.le_refl _))
        have rk' := Lib.hid (fun W (hW : Below P0.heap.size P0 W) => rk.out.below hW (Nat.le_refl _))
        have hA' := Lib.hid (fun W (hW : Below P0.heap.size P0 W) => hA.out W (Below.then_ hT.out hW))
        have hJ' := Lib.hid (fun W (hW : Below P0.heap.size P0 W) => hJb.out W (Below.then_ hT.out hW))
        have hT' := Lib.hid (fun W (hW : Below P0.heap.size P0 W) => Below.then_ hT.out hW)
        clear ru rq rf re rk hT hA hJb
        have b1 : w.heap.size < P0.heap.size := World.block_lt_of_cell? _ _ X0_0
        have b2 : w.heap.size + 1 < P0.heap.size := World.block_lt_of_cell? _ _ X1_0
        have b3 : G1 < P0.heap.size := World.block_lt_of_cell? _ _ X2_0
        have b4 : G2 < P0.heap.size := World.block_lt_of_cell? _ _ X3_0
        have b5 : A4.heap.size < P0.heap.size := World.block_lt_of_cell? _ _ X4_0
        have b6 : A5.heap.size < P0.heap.size := World.block_lt_of_cell? _ _ X5_0
        have b7 : A6.heap.size < P0.heap.size := World.block_lt_of_cell? _ _ P0_0
        refine (p0.out _ _ P0 (ru'.out _ hP.out) (rq'.out _ hP.out)).mono ?_; rintro e P1 ⟨rfl, hN8⟩
        replace X0_0 := (hN8.cell (World.block_lt_of_cell? _ _ X0_0)).trans X0_0
        replace X0_1 := (hN8.cell (World.block_lt_of_cell? _ _ X0_1)).trans X0_1
        replace X1_0 := (hN8.cell (World.block_lt_of_cell? _ _ X1_0)).trans X1_0
        replace X1_1 := (hN8.cell (World.block_lt_of_cell? _ _ X1_1)).trans X1_1
        replace X2_0 := (hN8.cell (World.block_lt_of_cell? _ _ X2_0)).trans X2_0
        replace X2_1 := (hN8.cell (World.block_lt_of_cell? _ _ X2_1)).trans X2_1
        replace X3_0 := (hN8.cell (World.block_lt_of_cell? _ _ X3_0)).trans X3_0
        replace X3_1 := (hN8.cell (World.block_lt_of_cell? _ _ X3_1)).trans X3_1
        replace X4_0 := (hN8.cell (World.block_lt_of_cell? _ _ X4_0)).trans X4_0
        replace X4_1 := (hN8.cell (World.block_lt_of_cell? _ _ X4_1)).trans X4_1
        replace X5_0 := (hN8.cell (World.block_lt_of_cell? _ _ X5_0)).trans X5_0
        replace X5_1 := (hN8.cell (World.block_lt_of_cell? _ _ X5_1)).trans X5_1
        replace P0_0 := (hN8.cell (World.block_lt_of_cell? _ _ P0_0)).trans P0_0
        replace P0_1 := (hN8.cell (World.block_lt_of_cell? _ _ P0_1)).trans P0_1
        replace hP := Lib.hid (Below.then_ hP.out hN8)
        have z_P1 := hN8.size; clear hN8
        go_wp2_with fail
        refine (p1.out _ _ P1 (ru'.out _ hP.out) (rq'.out _ hP.out) (hJ'.out _ hP.out)).mono ?_; rintro e P2 ⟨xv, rfl, os, hN9⟩
        replace X0_0 := (hN9.cell (World.block_lt_of_cell? _ _ X0_0)).trans X0_0
        replace X0_1 := (hN9.cell (World.block_lt_of_cell? _ _ X0_1)).trans X0_1
        replace X1_0 := (hN9.cell (World.block_lt_of_cell? _ _ X1_0)).trans X1_0
        replace X1_1 := (hN9.cell (World.block_lt_of_cell? _ _ X1_1)).trans X1_1
        replace X2_0 := (hN9.cell (World.block_lt_of_cell? _ _ X2_0)).trans X2_0
        replace X2_1 := (hN9.cell (World.block_lt_of_cell? _ _ X2_1)).trans X2_1
        replace X3_0 := (hN9.cell (World.block_lt_of_cell? _ _ X3_0)).trans X3_0
        replace X3_1 := (hN9.cell (World.block_lt_of_cell? _ _ X3_1)).trans X3_1
        replace X4_0 := (hN9.cell (World.block_lt_of_cell? _ _ X4_0)).trans X4_0
        replace X4_1 := (hN9.cell (World.block_lt_of_cell? _ _ X4_1)).trans X4_1
        replace X5_0 := (hN9.cell (World.block_lt_of_cell? _ _ X5_0)).trans X5_0
        replace X5_1 := (hN9.cell (World.block_lt_of_cell? _ _ X5_1)).trans X5_1
        replace P0_0 := (hN9.cell (World.block_lt_of_cell? _ _ P0_0)).trans P0_0
        replace P0_1 := (hN9.cell (World.block_lt_of_cell? _ _ P0_1)).trans P0_1
        replace hP := Lib.hid (Below.then_ hP.out hN9)
        have z_P2 := hN9.size; clear hN9
        change OwnR _ _ _ F at os
        have rx := Lib.hid (os.rd (by have := lF.out.1; omega) (by have := lF.out.2; omega))
        have fx := Lib.hid (os.fresh (by have := lF.out.1; omega) (by have := lF.out.2; omega))
        obtain ⟨xA, xn, xc, xB, xm, xd, rfl⟩ := os.shape
        clear os
        obtain ⟨hN10, Y1_0, Y1_1, Y1_z⟩ := box_new P2 (.slice xA xn xc) (.slice xB xm xd) 49
        replace X0_0 := (hN10.cell (World.block_lt_of_cell? _ _ X0_0)).trans X0_0
        replace X0_1 := (hN10.cell (World.block_lt_of_cell? _ _ X0_1)).trans X0_1
        replace X1_0 := (hN10.cell (World.block_lt_of_cell? _ _ X1_0)).trans X1_0
        replace X1_1 := (hN10.cell (World.block_lt_of_cell? _ _ X1_1)).trans X1_1
        replace X2_0 := (hN10.cell (World.block_lt_of_cell? _ _ X2_0)).trans X2_0
        replace X2_1 := (hN10.cell (World.block_lt_of_cell? _ _ X2_1)).trans X2_1
        replace X3_0 := (hN10.cell (World.block_lt_of_cell? _ _ X3_0)).trans X3_0
        replace X3_1 := (hN10.cell (World.block_lt_of_cell? _ _ X3_1)).trans X3_1
        replace X4_0 := (hN10.cell (World.block_lt_of_cell? _ _ X4_0)).trans X4_0
        replace X4_1 := (hN10.cell (World.block_lt_of_cell? _ _ X4_1)).trans X4_1
        replace X5_0 := (hN10.cell (World.block_lt_of_cell? _ _ X5_0)).trans X5_0
        replace X5_1 := (hN10.cell (World.block_lt_of_cell? _ _ X5_1)).trans X5_1
        replace P0_0 := (hN10.cell (World.block_lt_of_cell? _ _ P0_0)).trans P0_0
        replace P0_1 := (hN10.cell (World.block_lt_of_cell? _ _ P0_1)).trans P0_1
        replace hP := Lib.hid (Below.then_ hP.out hN10)
        replace rx := Lib.hid (rx.out.below hN10 (Nat.le_refl _))
        replace fx := Lib.hid (fx.out.kept hN10)
        go_wp2_with fail
        generalize P2.alloc (.cells #[.slice xA xn xc, .slice xB xm xd] 49) = Y1 at *
        clear hN10
        have bY1 : P2.heap.size < Y1.heap.size := World.block_lt_of_cell? _ _ Y1_0
        refine (p2.out _ _ Y1 (ru'.out _ hP.out) (rq'.out _ hP.out) (hJ'.out _ hP.out)).mono ?_; rintro e P3 ⟨yv, rfl, os, hN11⟩
        replace X0_0 := (hN11.cell (World.block_lt_of_cell? _ _ X0_0)).trans X0_0
        replace X0_1 := (hN11.cell (World.block_lt_of_cell? _ _ X0_1)).trans X0_1
        replace X1_0 := (hN11.cell (World.block_lt_of_cell? _ _ X1_0)).trans X1_0
        replace X1_1 := (hN11.cell (World.block_lt_of_cell? _ _ X1_1)).trans X1_1
        replace X2_0 := (hN11.cell (World.block_lt_of_cell? _ _ X2_0)).trans X2_0
        replace X2_1 := (hN11.cell (World.block_lt_of_cell? _ _ X2_1)).trans X2_1
        replace X3_0 := (hN11.cell (World.block_lt_of_cell? _ _ X3_0)).trans X3_0
        replace X3_1 := (hN11.cell (World.block_lt_of_cell? _ _ X3_1)).trans X3_1
        replace X4_0 := (hN11.cell (World.block_lt_of_cell? _ _ X4_0)).trans X4_0
        replace X4_1 := (hN11.cell (World.block_lt_of_cell? _ _ X4_1)).trans X4_1
        replace X5_0 := (hN11.cell (World.block_lt_of_cell? _ _ X5_0)).trans X5_0
        replace X5_1 := (hN11.cell (World.block_lt_of_cell? _ _ X5_1)).trans X5_1
        replace P0_0 := (hN11.cell (World.block_lt_of_cell? _ _ P0_0)).trans P0_0
        replace P0_1 := (hN11.cell (World.block_lt_of_cell? _ _ P0_1)).trans P0_1
        replace hP := Lib.hid (Below.then_ hP.out hN11)
        replace rx := Lib.hid (rx.out.below hN11 (Nat.le_refl _))
        replace fx := Lib.hid (fx.out.kept hN11)
        replace Y1_0 := (hN11.cell (World.block_lt_of_cell? _ _ Y1_0)).trans Y1_0
        replace Y1_1 := (hN11.cell (World.block_lt_of_cell? _ _ Y1_1)).trans Y1_1
        have z_P3 := hN11.size; clear hN11
        change OwnR _ _ _ E at os
        have ry := Lib.hid (os.rd (by have := lE.out.1; omega) (by have := lE.out.2; omega))
        have fy := Lib.hid (os.fresh (by have := lE.out.1; omega) (by have := lE.out.2; omega))
        obtain ⟨yA, yn, yc, yB, ym, yd, rfl⟩ := os.shape
        clear os
        obtain ⟨hN12, Y2_0, Y2_1, Y2_z⟩ := box_new P3 (.slice yA yn yc) (.slice yB ym yd) 49
        replace X0_0 := (hN12.cell (World.block_lt_of_cell? _ _ X0_0)).trans X0_0
        replace X0_1 := (hN12.cell (World.block_lt_of_cell? _ _ X0_1)).trans X0_1
        replace X1_0 := (hN12.cell (World.block_lt_of_cell? _ _ X1_0)).trans X1_0
        replace X1_1 := (hN12.cell (World.block_lt_of_cell? _ _ X1_1)).trans X1_1
        replace X2_0 := (hN12.cell (World.block_lt_of_cell? _ _ X2_0)).trans X2_0
        replace X2_1 := (hN12.cell (World.block_lt_of_cell? _ _ X2_1)).trans X2_1
        replace X3_0 := (hN12.cell (World.block_lt_of_cell? _ _ X3_0)).trans X3_0
        replace X3_1 := (hN12.cell (World.block_lt_of_cell? _ _ X3_1)).trans X3_1
        replace X4_0 := (hN12.cell (World.block_lt_of_cell? _ _ X4_0)).trans X4_0
        replace X4_1 := (hN12.cell (World.block_lt_of_cell? _ _ X4_1)).trans X4_1
        replace X5_0 := (hN12.cell (World.block_lt_of_cell? _ _ X5_0)).trans X5_0
        replace X5_1 := (hN12.cell (World.block_lt_of_cell? _ _ X5_1)).trans X5_1
        replace P0_0 := (hN12.cell (World.block_lt_of_cell? _ _ P0_0)).trans P0_0
        replace P0_1 := (hN12.cell (World.block_lt_of_cell? _ _ P0_1)).trans P0_1
        replace hP := Lib.hid (Below.then_ hP.out hN12)
        replace rx := Lib.hid (rx.out.below hN12 (Nat.le_refl _))
        replace fx := Lib.hid (fx.out.kept hN12)
        replace Y1_0 := (hN12.cell (World.block_lt_of_cell? _ _ Y1_0)).trans Y1_0
        replace Y1_1 := (hN12.cell (World.block_lt_of_cell? _ _ Y1_1)).trans Y1_1
        replace ry := Lib.hid (ry.out.below hN12 (Nat.le_refl _))
        replace fy := Lib.hid (fy.out.kept hN12)
        go_wp2_with fail
        generalize P3.alloc (.cells #[.slice yA yn yc, .slice yB ym yd] 49) = Y2 at *
        clear hN12
        have bY2 : P3.heap.size < Y2.heap.size := World.block_lt_of_cell? _ _ Y2_0
        refine (p3.out _ _ Y2 (ru'.out _ hP.out) (rq'.out _ hP.out) (hJ'.out _ hP.out)).mono ?_; rintro e P4 ⟨zv, rfl, os, hN13⟩
        replace X0_0 := (hN13.cell (World.block_lt_of_cell? _ _ X0_0)).trans X0_0
        replace X0_1 := (hN13.cell (World.block_lt_of_cell? _ _ X0_1)).trans X0_1
        replace X1_0 := (hN13.cell (World.block_lt_of_cell? _ _ X1_0)).trans X1_0
        replace X1_1 := (hN13.cell (World.block_lt_of_cell? _ _ X1_1)).trans X1_1
        replace X2_0 := (hN13.cell (World.block_lt_of_cell? _ _ X2_0)).trans X2_0
        replace X2_1 := (hN13.cell (World.block_lt_of_cell? _ _ X2_1)).trans X2_1
        replace X3_0 := (hN13.cell (World.block_lt_of_cell? _ _ X3_0)).trans X3_0
        replace X3_1 := (hN13.cell (World.block_lt_of_cell? _ _ X3_1)).trans X3_1
        replace X4_0 := (hN13.cell (World.block_lt_of_cell? _ _ X4_0)).trans X4_0
        replace X4_1 := (hN13.cell (World.block_lt_of_cell? _ _ X4_1)).trans X4_1
        replace X5_0 := (hN13.cell (World.block_lt_of_cell? _ _ X5_0)).trans X5_0
        replace X5_1 := (hN13.cell (World.block_lt_of_cell? _ _ X5_1)).trans X5_1
        replace P0_0 := (hN13.cell (World.block_lt_of_cell? _ _ P0_0)).trans P0_0
        replace P0_1 := (hN13.cell (World.block_lt_of_cell? _ _ P0_1)).trans P0_1
        replace hP := Lib.hid (Below.then_ hP.out hN13)
        replace rx := Lib.hid (rx.out.below hN13 (Nat.le_refl _))
        replace fx := Lib.hid (fx.out.kept hN13)
        replace Y1_0 := (hN13.cell (World.block_lt_of_cell? _ _ Y1_0)).trans Y1_0
        replace Y1_1 := (hN13.cell (World.block_lt_of_cell? _ _ Y1_1)).trans Y1_1
        replace ry := Lib.hid (ry.out.below hN13 (Nat.le_refl _))
        replace fy := Lib.hid (fy.out.kept hN13)
        replace Y2_0 := (hN13.cell (World.block_lt_of_cell? _ _ Y2_0)).trans Y2_0
        replace Y2_1 := (hN13.cell (World.block_lt_of_cell? _ _ Y2_1)).trans Y2_1
        have z_P4 := hN13.size; clear hN13
        change OwnR _ _ _ H at os
        have rz := Lib.hid (os.rd (by have := lH.out.1; omega) (by have := lH.out.2; omega))
        have fz := Lib.hid (os.fresh (by have := lH.out.1; omega) (by have := lH.out.2; omega))
        obtain ⟨zA, zn, zc, zB, zm, zd, rfl⟩ := os.shape
        clear os
        obtain ⟨hN14, Y3_0, Y3_1, Y3_z⟩ := box_new P4 (.slice zA zn zc) (.slice zB zm zd) 49
        replace X0_0 := (hN14.cell (World.block_lt_of_cell? _ _ X0_0)).trans X0_0
        replace X0_1 := (hN14.cell (World.block_lt_of_cell? _ _ X0_1)).trans X0_1
        replace X1_0 := (hN14.cell (World.block_lt_of_cell? _ _ X1_0)).trans X1_0
        replace X1_1 := (hN14.cell (World.block_lt_of_cell? _ _ X1_1)).trans X1_1
        replace X2_0 := (hN14.cell (World.block_lt_of_cell? _ _ X2_0)).trans X2_0
        replace X2_1 := (hN14.cell (World.block_lt_of_cell? _ _ X2_1)).trans X2_1
        replace X3_0 := (hN14.cell (World.block_lt_of_cell? _ _ X3_0)).trans X3_0
        replace X3_1 := (hN14.cell (World.block_lt_of_cell? _ _ X3_1)).trans X3_1
        replace X4_0 := (hN14.cell (World.block_lt_of_cell? _ _ X4_0)).trans X4_0
        replace X4_1 := (hN14.cell (World.block_lt_of_cell? _ _ X4_1)).trans X4_1
        replace X5_0 := (hN14.cell (World.block_lt_of_cell? _ _ X5_0)).trans X5_0
        replace X5_1 := (hN14.cell (World.block_lt_of_cell? _ _ X5_1)).trans X5_1
        replace P0_0 := (hN14.cell (World.block_lt_of_cell? _ _ P0_0)).trans P0_0
        replace P0_1 := (hN14.cell (World.block_lt_of_cell? _ _ P0_1)).trans P0_1
        replace hP := Lib.hid (Below.then_ hP.out hN14)
        replace rx := Lib.hid (rx.out.below hN14 (Nat.le_refl _))
        replace fx := Lib.hid (fx.out.kept hN14)
        replace Y1_0 := (hN14.cell (World.block_lt_of_cell? _ _ Y1_0)).trans Y1_0
        replace Y1_1 := (hN14.cell (World.block_lt_of_cell? _ _ Y1_1)).trans Y1_1
        replace ry := Lib.hid (ry.out.below hN14 (Nat.le_refl _))
        replace fy := Lib.hid (fy.out.kept hN14)
        replace Y2_0 := (hN14.cell (World.block_lt_of_cell? _ _ Y2_0)).trans Y2_0
        replace Y2_1 := (hN14.cell (World.block_lt_of_cell? _ _ Y2_1)).trans Y2_1
        replace rz := Lib.hid (rz.out.below hN14 (Nat.le_refl _))
        replace fz := Lib.hid (fz.out.kept hN14)
        go_wp2_with fail
        generalize P4.alloc (.cells #[.slice zA zn zc, .slice zB zm zd] 49) = Y3 at *
        clear hN14
        have bY3 : P4.heap.size < Y3.heap.size := World.block_lt_of_cell? _ _ Y3_0
        have hrx := Lib.hid (ruled_any F F (.agg #[.slice xA xn xc, .slice xB xm xd]) (.agg #[.slice fA fn fc, .slice fB fm fd]) Fe Fe P1.heap.size P2.heap.size Y3 rx.out (rf'.out _ hP.out) fx.out (by omega))
        rw [decide_eq_true rfl, sameR_self] at hrx
        simp only [Bool.and_self] at hrx
        clear rx fx
        refine hrx.out.mono ?_; rintro e Q1 ⟨rfl, hBx⟩
        have ry_ := Lib.hid (ry.out.btw fy.out hBx (by omega))
        have rz_ := Lib.hid (rz.out.btw fz.out hBx (by omega))
        clear ry rz
        replace X0_0 := hBx.cell X0_0 (by simp only []; omega)
        replace X0_1 := hBx.cell X0_1 (by simp only []; omega)
        replace X1_0 := hBx.cell X1_0 (by simp only []; omega)
        replace X1_1 := hBx.cell X1_1 (by simp only []; omega)
        replace X2_0 := hBx.cell X2_0 (by simp only []; omega)
        replace X2_1 := hBx.cell X2_1 (by simp only []; omega)
        replace X3_0 := hBx.cell X3_0 (by simp only []; omega)
        replace X3_1 := hBx.cell X3_1 (by simp only []; omega)
        replace X4_0 := hBx.cell X4_0 (by simp only []; omega)
        replace X4_1 := hBx.cell X4_1 (by simp only []; omega)
        replace X5_0 := hBx.cell X5_0 (by simp only []; omega)
        replace X5_1 := hBx.cell X5_1 (by simp only []; omega)
        replace P0_0 := hBx.cell P0_0 (by simp only []; omega)
        replace P0_1 := hBx.cell P0_1 (by simp only []; omega)
        replace hP := Lib.hid (hP.out.trans ((hBx.below (by omega)).mono (by omega)))
        replace Y1_0 := hBx.cell Y1_0 (by simp only []; omega)
        replace Y1_1 := hBx.cell Y1_1 (by simp only []; omega)
        replace fy := Lib.hid (fy.out.btw hBx (by omega))
        replace Y2_0 := hBx.cell Y2_0 (by simp only []; omega)
        replace Y2_1 := hBx.cell Y2_1 (by simp only []; omega)
        replace fz := Lib.hid (fz.out.btw hBx (by omega))
        replace Y3_0 := hBx.cell Y3_0 (by simp only []; omega)
        replace Y3_1 := hBx.cell Y3_1 (by simp only []; omega)
        have z_Q1 := hBx.size; clear hBx
        have ry := ry_
        have rz := rz_
        clear ry_ rz_
        go_wp2_with fail
        have hry := Lib.hid (ruled_any E E (.agg #[.slice yA yn yc, .slice yB ym yd]) (.agg #[.slice eA en ec, .slice eB em ed]) Ee Ee Y1.heap.size P3.heap.size Q1 ry.out (re'.out _ hP.out) fy.out (by omega))
        rw [decide_eq_true rfl, sameR_self] at hry
        simp only [Bool.and_self] at hry
        clear ry fy
        refine hry.out.mono ?_; rintro e Q2 ⟨rfl, hBy⟩
        have rz_ := Lib.hid (rz.out.btw fz.out hBy (by omega))
        clear rz
        replace X0_0 := hBy.cell X0_0 (by simp only []; omega)
        replace X0_1 := hBy.cell X0_1 (by simp only []; omega)
        replace X1_0 := hBy.cell X1_0 (by simp only []; omega)
        replace X1_1 := hBy.cell X1_1 (by simp only []; omega)
        replace X2_0 := hBy.cell X2_0 (by simp only []; omega)
        replace X2_1 := hBy.cell X2_1 (by simp only []; omega)
        replace X3_0 := hBy.cell X3_0 (by simp only []; omega)
        replace X3_1 := hBy.cell X3_1 (by simp only []; omega)
        replace X4_0 := hBy.cell X4_0 (by simp only []; omega)
        replace X4_1 := hBy.cell X4_1 (by simp only []; omega)
        replace X5_0 := hBy.cell X5_0 (by simp only []; omega)
        replace X5_1 := hBy.cell X5_1 (by simp only []; omega)
        replace P0_0 := hBy.cell P0_0 (by simp only []; omega)
        replace P0_1 := hBy.cell P0_1 (by simp only []; omega)
        replace hP := Lib.hid (hP.out.trans ((hBy.below (by omega)).mono (by omega)))
        replace Y1_0 := hBy.cell Y1_0 (by simp only []; omega)
        replace Y1_1 := hBy.cell Y1_1 (by simp only []; omega)
        replace Y2_0 := hBy.cell Y2_0 (by simp only []; omega)
        replace Y2_1 := hBy.cell Y2_1 (by simp only []; omega)
        replace fz := Lib.hid (fz.out.btw hBy (by omega))
        replace Y3_0 := hBy.cell Y3_0 (by simp only []; omega)
        replace Y3_1 := hBy.cell Y3_1 (by simp only []; omega)
        have z_Q2 := hBy.size; clear hBy
        have rz := rz_
        clear rz_
        go_wp2_with fail
        have hrz := Lib.hid (ruled_any H H (.agg #[.slice zA zn zc, .slice zB zm zd]) (.agg #[.slice kA kn kc, .slice kB km kd]) He He Y2.heap.size P4.heap.size Q2 rz.out (rk'.out _ hP.out) fz.out (by omega))
        rw [decide_eq_true rfl, sameR_self] at hrz
        simp only [Bool.and_self] at hrz
        clear rz fz
        refine hrz.out.mono ?_; rintro e Q3 ⟨rfl, hBz⟩
        replace X0_0 := hBz.cell X0_0 (by simp only []; omega)
        replace X0_1 := hBz.cell X0_1 (by simp only []; omega)
        replace X1_0 := hBz.cell X1_0 (by simp only []; omega)
        replace X1_1 := hBz.cell X1_1 (by simp only []; omega)
        replace X2_0 := hBz.cell X2_0 (by simp only []; omega)
        replace X2_1 := hBz.cell X2_1 (by simp only []; omega)
        replace X3_0 := hBz.cell X3_0 (by simp only []; omega)
        replace X3_1 := hBz.cell X3_1 (by simp only []; omega)
        replace X4_0 := hBz.cell X4_0 (by simp only []; omega)
        replace X4_1 := hBz.cell X4_1 (by simp only []; omega)
        replace X5_0 := hBz.cell X5_0 (by simp only []; omega)
        replace X5_1 := hBz.cell X5_1 (by simp only []; omega)
        replace P0_0 := hBz.cell P0_0 (by simp only []; omega)
        replace P0_1 := hBz.cell P0_1 (by simp only []; omega)
        replace hP := Lib.hid (hP.out.trans ((hBz.below (by omega)).mono (by omega)))
        replace Y1_0 := hBz.cell Y1_0 (by simp only []; omega)
        replace Y1_1 := hBz.cell Y1_1 (by simp only []; omega)
        replace Y2_0 := hBz.cell Y2_0 (by simp only []; omega)
        replace Y2_1 := hBz.cell Y2_1 (by simp only []; omega)
        replace Y3_0 := hBz.cell Y3_0 (by simp only []; omega)
        replace Y3_1 := hBz.cell Y3_1 (by simp only []; omega)
        have z_Q3 := hBz.size; clear hBz
        go_wp2_with fail
        refine (sR.out _ Q3 (ru'.out _ hP.out) (hT'.out _ hP.out)).mono ?_; rintro e V15 ⟨rfl, hN15⟩
        replace X0_0 := (hN15.cell (World.block_lt_of_cell? _ _ X0_0)).trans X0_0
        replace X0_1 := (hN15.cell (World.block_lt_of_cell? _ _ X0_1)).trans X0_1
        replace X1_0 := (hN15.cell (World.block_lt_of_cell? _ _ X1_0)).trans X1_0
        replace X1_1 := (hN15.cell (World.block_lt_of_cell? _ _ X1_1)).trans X1_1
        replace X2_0 := (hN15.cell (World.block_lt_of_cell? _ _ X2_0)).trans X2_0
        replace X2_1 := (hN15.cell (World.block_lt_of_cell? _ _ X2_1)).trans X2_1
        replace X3_0 := (hN15.cell (World.block_lt_of_cell? _ _ X3_0)).trans X3_0
        replace X3_1 := (hN15.cell (World.block_lt_of_cell? _ _ X3_1)).trans X3_1
        replace X4_0 := (hN15.cell (World.block_lt_of_cell? _ _ X4_0)).trans X4_0
        replace X4_1 := (hN15.cell (World.block_lt_of_cell? _ _ X4_1)).trans X4_1
        replace X5_0 := (hN15.cell (World.block_lt_of_cell? _ _ X5_0)).trans X5_0
        replace X5_1 := (hN15.cell (World.block_lt_of_cell? _ _ X5_1)).trans X5_1
        replace P0_0 := (hN15.cell (World.block_lt_of_cell? _ _ P0_0)).trans P0_0
        replace P0_1 := (hN15.cell (World.block_lt_of_cell? _ _ P0_1)).trans P0_1
        replace hP := Lib.hid (Below.then_ hP.out hN15)
        replace Y1_0 := (hN15.cell (World.block_lt_of_cell? _ _ Y1_0)).trans Y1_0
        replace Y1_1 := (hN15.cell (World.block_lt_of_cell? _ _ Y1_1)).trans Y1_1
        replace Y2_0 := (hN15.cell (World.block_lt_of_cell? _ _ Y2_0)).trans Y2_0
        replace Y2_1 := (hN15.cell (World.block_lt_of_cell? _ _ Y2_1)).trans Y2_1
        replace Y3_0 := (hN15.cell (World.block_lt_of_cell? _ _ Y3_0)).trans Y3_0
        replace Y3_1 := (hN15.cell (World.block_lt_of_cell? _ _ Y3_1)).trans Y3_1
        clear hN15
        go_wp2_with fail
        refine (sS.out _ V15 (rq'.out _ hP.out) (hT'.out _ hP.out)).mono ?_; rintro e V16 ⟨rfl, hN16⟩
        replace X0_0 := (hN16.cell (World.block_lt_of_cell? _ _ X0_0)).trans X0_0
        replace X0_1 := (hN16.cell (World.block_lt_of_cell? _ _ X0_1)).trans X0_1
        replace X1_0 := (hN16.cell (World.block_lt_of_cell? _ _ X1_0)).trans X1_0
        replace X1_1 := (hN16.cell (World.block_lt_of_cell? _ _ X1_1)).trans X1_1
        replace X2_0 := (hN16.cell (World.block_lt_of_cell? _ _ X2_0)).trans X2_0
        replace X2_1 := (hN16.cell (World.block_lt_of_cell? _ _ X2_1)).trans X2_1
        replace X3_0 := (hN16.cell (World.block_lt_of_cell? _ _ X3_0)).trans X3_0
        replace X3_1 := (hN16.cell (World.block_lt_of_cell? _ _ X3_1)).trans X3_1
        replace X4_0 := (hN16.cell (World.block_lt_of_cell? _ _ X4_0)).trans X4_0
        replace X4_1 := (hN16.cell (World.block_lt_of_cell? _ _ X4_1)).trans X4_1
        replace X5_0 := (hN16.cell (World.block_lt_of_cell? _ _ X5_0)).trans X5_0
        replace X5_1 := (hN16.cell (World.block_lt_of_cell? _ _ X5_1)).trans X5_1
        replace P0_0 := (hN16.cell (World.block_lt_of_cell? _ _ P0_0)).trans P0_0
        replace P0_1 := (hN16.cell (World.block_lt_of_cell? _ _ P0_1)).trans P0_1
        replace hP := Lib.hid (Below.then_ hP.out hN16)
        replace Y1_0 := (hN16.cell (World.block_lt_of_cell? _ _ Y1_0)).trans Y1_0
        replace Y1_1 := (hN16.cell (World.block_lt_of_cell? _ _ Y1_1)).trans Y1_1
        replace Y2_0 := (hN16.cell (World.block_lt_of_cell? _ _ Y2_0)).trans Y2_0
        replace Y2_1 := (hN16.cell (World.block_lt_of_cell? _ _ Y2_1)).trans Y2_1
        replace Y3_0 := (hN16.cell (World.block_lt_of_cell? _ _ Y3_0)).trans Y3_0
        replace Y3_1 := (hN16.cell (World.block_lt_of_cell? _ _ Y3_1)).trans Y3_1
        clear hN16
        go_wp2_with fail
        refine (hA'.out V16 hP.out).mono ?_; rintro e V17 ⟨rfl, hN17⟩
        replace X0_0 := (hN17.cell (World.block_lt_of_cell? _ _ X0_0)).trans X0_0
        replace X0_1 := (hN17.cell (World.block_lt_of_cell? _ _ X0_1)).trans X0_1
        replace X1_0 := (hN17.cell (World.block_lt_of_cell? _ _ X1_0)).trans X1_0
        replace X1_1 := (hN17.cell (World.block_lt_of_cell? _ _ X1_1)).trans X1_1
        replace X2_0 := (hN17.cell (World.block_lt_of_cell? _ _ X2_0)).trans X2_0
        replace X2_1 := (hN17.cell (World.block_lt_of_cell? _ _ X2_1)).trans X2_1
        replace X3_0 := (hN17.cell (World.block_lt_of_cell? _ _ X3_0)).trans X3_0
        replace X3_1 := (hN17.cell (World.block_lt_of_cell? _ _ X3_1)).trans X3_1
        replace X4_0 := (hN17.cell (World.block_lt_of_cell? _ _ X4_0)).trans X4_0
        replace X4_1 := (hN17.cell (World.block_lt_of_cell? _ _ X4_1)).trans X4_1
        replace X5_0 := (hN17.cell (World.block_lt_of_cell? _ _ X5_0)).trans X5_0
        replace X5_1 := (hN17.cell (World.block_lt_of_cell? _ _ X5_1)).trans X5_1
        replace P0_0 := (hN17.cell (World.block_lt_of_cell? _ _ P0_0)).trans P0_0
        replace P0_1 := (hN17.cell (World.block_lt_of_cell? _ _ P0_1)).trans P0_1
        replace hP := Lib.hid (Below.then_ hP.out hN17)
        replace Y1_0 := (hN17.cell (World.block_lt_of_cell? _ _ Y1_0)).trans Y1_0
        replace Y1_1 := (hN17.cell (World.block_lt_of_cell? _ _ Y1_1)).trans Y1_1
        replace Y2_0 := (hN17.cell (World.block_lt_of_cell? _ _ Y2_0)).trans Y2_0
        replace Y2_1 := (hN17.cell (World.block_lt_of_cell? _ _ Y2_1)).trans Y2_1
        replace Y3_0 := (hN17.cell (World.block_lt_of_cell? _ _ Y3_0)).trans Y3_0
        replace Y3_1 := (hN17.cell (World.block_lt_of_cell? _ _ Y3_1)).trans Y3_1
        clear hN17
        go_wp2
        go_ret
        exact ⟨rfl, hT'.out _ hP.out⟩
end Go.Proofs.YtfljkcmijnhgkaaDoor
