/- The law's helper ruled: its contract. field.Short: its contract. -/
import Derived.Test.YtfljkcmijnhgkaaDoorKw
import Derived.Test.YtfljkcmijnhgkaaDoorKj
import Derived.Test.YtfljkcmijnhgkaaDoorKu
import Derived.Test.YtfljkcmijnhgkaaDoorKq
import Derived.Test.YtfljkcmijnhgkaaDoorKn
import Derived.Test.YtfljkcmijnhgkaaDoorKg
import Derived.Test.YtfljkcmijnhgkaaDoorKh
import Derived.Test.YtfljkcmijnhgkaaDoorKb
import Derived.Test.YtfljkcmijnhgkaaDoorKf
import Derived.Test.YtfljkcmijnhgkaaDoorKk
namespace Go.Proofs.YtfljkcmijnhgkaaDoor
open Go.RowKit Go.Shelf
set_option linter.unusedSimpArgs false
theorem Btw.cell {lo hi : Nat} {w w' : World} (h : Btw lo hi w w') {a : Addr} {x : Value} (hc : w.cell? a = some x) (hn : a.block < lo ∨ hi ≤ a.block) : w'.cell? a = some x :=
  (World.cell?_of_block (h.block a.block (World.block_lt_of_cell? w _ hc) hn)).trans hc
/-- A box of two. -/
def Box2 (W : World) (g : Nat) (x y : Value) : Prop := W.cell? ⟨g, 0, none⟩ = some x ∧ W.cell? ⟨g, 1, none⟩ = some y
theorem Box2.below {W W' : World} {g : Nat} {x y : Value} (h : Box2 W g x y) (hb : Below W.heap.size W W') : Box2 W' g x y :=
  ⟨(hb.cell (World.block_lt_of_cell? W _ h.1)).trans h.1, (hb.cell (World.block_lt_of_cell? W _ h.2)).trans h.2⟩
/-- A rule's rows may be cleared. -/
def FreshR (lo hi : Nat) (w : World) (v : Value) (r : Rule) : Prop := ∃ a b, v = .agg #[a, b] ∧ FreshRow hi lo hi w r.by_.length a ∧ FreshRow hi lo hi w r.start.length b
theorem OwnR.fresh {w : World} {base : Nat} {v : Value} {r : Rule} (h : OwnR w base v r) (h1 : r.by_.length ≤ 1000) (h2 : r.start.length ≤ 1000) : FreshR base w.heap.size w v r := by
  obtain ⟨a, b, rfl, oa, ob⟩ := h
  exact ⟨a, b, rfl, own_fresh oa (by omega) (fun e => by have := (World.ownsRow.lt oa _ e).2; omega), own_fresh ob (by omega) (fun e => by have := (World.ownsRow.lt ob _ e).2; omega)⟩
theorem OwnR.rd {w : World} {base : Nat} {v : Value} {r : Rule} (h : OwnR w base v r) (h1 : r.by_.length ≤ 1000) (h2 : r.start.length ≤ 1000) : RdR w v r := by
  obtain ⟨a, b, rfl, oa, ob⟩ := h
  exact ⟨a, b, rfl, oa.rd (by omega), ob.rd (by omega)⟩
theorem OwnR.below {w w1 : World} {base : Nat} {v : Value} {r : Rule} (h : OwnR w base v r) (hb : Below w.heap.size w w1) : OwnR w1 base v r := by
  obtain ⟨a, b, rfl, oa, ob⟩ := h
  exact ⟨a, b, rfl, oa.below hb, ob.below hb⟩
theorem FreshR.kept {lo hi : Nat} {w w' : World} {v : Value} {r : Rule} (h : FreshR lo hi w v r) (hb : Below w.heap.size w w') : FreshR lo hi w' v r := by
  obtain ⟨a, b, rfl, oa, ob⟩ := h
  exact ⟨a, b, rfl, oa.kept hb, ob.kept hb⟩
theorem OwnR.shape {w : World} {base : Nat} {v : Value} {r : Rule} (h : OwnR w base v r) : ∃ A n c B m d, v = .agg #[.slice A n c, .slice B m d] := by
  obtain ⟨a, b, rfl, oa, ob⟩ := h
  unfold OwnI at oa ob
  obtain ⟨A, c, rfl⟩ := own_form oa
  obtain ⟨B, d, rfl⟩ := own_form ob
  exact ⟨_, _, _, _, _, _, rfl⟩
theorem RdR.shape {w : World} {v : Value} {r : Rule} (h : RdR w v r) : ∃ A n c B m d, v = .agg #[.slice A n c, .slice B m d] := by
  obtain ⟨a, b, rfl, oa, ob⟩ := h
  obtain ⟨A, c, rfl, -⟩ := oa.open_
  obtain ⟨B, d, rfl, -⟩ := ob.open_
  exact ⟨_, _, _, _, _, _, rfl⟩
end Go.Proofs.YtfljkcmijnhgkaaDoor

namespace Go.Proofs.YtfljkcmijnhgkaaDoor
open Go.RowKit Go.Shelf
set_option linter.unusedSimpArgs false
/-- A rule of the call's own, where its rows' blocks are as they were. -/
theorem own_kept {W E : World} {lo b : Nat} {v : Value} {r : Rule} (h : OwnR W lo v r) (hb : b ≤ lo) (hk : ∀ g, lo ≤ g → g < W.heap.size → E.heap[g]? = W.heap[g]?) : OwnR E b v r := by
  obtain ⟨x, y, rfl, ox, oy⟩ := h
  exact ⟨x, y, rfl, own_of_block (ox.base hb) (fun g hg => hk g (World.ownsRow.lt ox g hg).1 (World.ownsRow.lt ox g hg).2), own_of_block (oy.base hb) (fun g hg => hk g (World.ownsRow.lt oy g hg).1 (World.ownsRow.lt oy g hg).2)⟩
/-- A rule's box is none of the rule's rows. -/
theorem own_apart {E : World} {b g : Nat} {v x y p q : Value} {r : Rule} (h : OwnR E b v r) (hg : E.heap[g]? = some (.cells #[p, q] 49 (0, 0))) : OwnR ((E.setCell ⟨g, 0, none⟩ x).setCell ⟨g, 1, none⟩ y) b v r := by
  have one : ∀ u xs, OwnI E b u xs → OwnI ((E.setCell ⟨g, 0, none⟩ x).setCell ⟨g, 1, none⟩ y) b u xs := fun u xs hu => own_of_block hu (fun k hk => by
    have hne : k ≠ g := fun e => own_type hu hg (by decide) (by rw [← e]; exact hk)
    rw [Below.heap_setCell _ _ _ _ hne, Below.heap_setCell _ _ _ _ hne])
  obtain ⟨a, c, rfl, oa, oc⟩ := h
  exact ⟨a, c, rfl, one _ _ oa, one _ _ oc⟩
set_option maxRecDepth 100000 in
set_option maxHeartbeats 3200000 in
theorem Short_any (r : Rule) (v : Value) (w : World) (h : RdR w v r) :
    Calls Tryd.prog 48 #[v] w (RuleOut (shortR r) w) := by
  have hR := Lib.hid h
  obtain ⟨a, b, rfl, ra, rb⟩ := h
  obtain ⟨A1, d1, rfl, m1, m2, -⟩ := ra.open_
  obtain ⟨A2, d2, rfl, -⟩ := rb.open_
  have hbx : Below w.heap.size w ((w.alloc (.cells #[.slice A1 r.by_.length d1, .slice A2 r.start.length d2] 49)).alloc (.cells #[.slice none 0 0, .slice none 0 0] 49)) := ((Below.refl _ _).alloc (Nat.le_refl _) _).alloc (by simp) _
  have hga : ((w.alloc (.cells #[.slice A1 r.by_.length d1, .slice A2 r.start.length d2] 49)).alloc (.cells #[.slice none 0 0, .slice none 0 0] 49)).heap[w.heap.size]? = some (.cells #[.slice A1 r.by_.length d1, .slice A2 r.start.length d2] 49 (0, 0)) := by
    rw [((Below.refl _ (w.alloc (.cells #[.slice A1 r.by_.length d1, .slice A2 r.start.length d2] 49))).alloc (Nat.le_refl _) _).block w.heap.size (by simp)]; exact heap_alloc_new _ _
  have hgb : ((w.alloc (.cells #[.slice A1 r.by_.length d1, .slice A2 r.start.length d2] 49)).alloc (.cells #[.slice none 0 0, .slice none 0 0] 49)).heap[w.heap.size + 1]? = some (.cells #[.slice none 0 0, .slice none 0 0] 49 (0, 0)) := by
    have h := heap_alloc_new (w.alloc (.cells #[.slice A1 r.by_.length d1, .slice A2 r.start.length d2] 49)) (.cells #[.slice none 0 0, .slice none 0 0] 49); rwa [World.size_alloc] at h
  have hsz : ((w.alloc (.cells #[.slice A1 r.by_.length d1, .slice A2 r.start.length d2] 49)).alloc (.cells #[.slice none 0 0, .slice none 0 0] 49)).heap.size = w.heap.size + 2 := by simp
  have hri := Lib.hid (Right_any r _ _ (hR.out.below hbx (Nat.le_refl _)))
  clear ra rb
  by_cases h0 : rightR r = 0
  · have hr : Hid (shortR r = ((fitM (firstL r (2 * r.by_.length)) r.by_.length).getD ⟨[], []⟩, 0)) := Lib.hid (by rw [shortR, if_neg (by simpa using h0)])
    obtain ⟨o1, o2, o3, o4⟩ := rightR_ok h0
    have hln := Lib.hid (fun W (hW : Below w.heap.size w W) => lined_line r A1 A2 r.by_.length r.start.length d1 d2 W (hR.out.below hW (Nat.le_refl _)))
    have hfi := Lib.hid (fun v a b g W hL => first_any r (2 * r.by_.length) v a b g W h0 hL (by omega))
    have hft := Lib.hid (fun v W hv => fitting_any (firstL r (2 * r.by_.length)) r.by_.length v W (by rw [firstL_len]; omega) (by omega) (firstL_bd o4 _) hv)
    have hfl := Lib.hid (firstL_len r (2 * r.by_.length))
    rw [h0] at hri
    clear h0 o2 o3 o4 hR m2
    generalize firstL r (2 * r.by_.length) = FL at *
    generalize fitM FL r.by_.length = FM at *
    generalize hn1 : r.by_.length = n at *
    generalize r.start.length = m at *
    generalize shortR r = SR at *
    have e2 : 2 * (n : Int) = ((2 * n : Nat) : Int) := by omega
    have w2 : IntKind.i64.wrap ((2 * n : Nat) : Int) = ((2 * n : Nat) : Int) := IntWalk.i64_in _ ⟨by omega, by omega⟩
    replace hn1 := Lib.hid hn1
    generalize 2 * n = n2 at *
    go_enter Tryd.func48, Tryd.ntmps48
    go_wp2_with fail
    generalize (w.alloc (.cells #[.slice A1 n d1, .slice A2 m d2] 49)).alloc (.cells #[.slice none 0 0, .slice none 0 0] 49) = X at *
    refine hri.out.mono ?_; rintro e W1 ⟨rfl, hB1⟩
    have HSf : Hid (∀ W, Below X.heap.size X W → W.cell? ⟨w.heap.size, 0, none⟩ = some (.slice A1 n d1) ∧ W.cell? ⟨w.heap.size, 1, none⟩ = some (.slice A2 m d2)) := Lib.hid (fun W hW => by
      have hg := (hW.block w.heap.size (by omega)).trans hga
      exact ⟨by unfold World.cell?; rw [hg]; rfl, by unfold World.cell?; rw [hg]; rfl⟩)
    have HG : Hid (∀ W, Below X.heap.size X W → W.heap[w.heap.size + 1]? = some (.cells #[.slice none 0 0, .slice none 0 0] 49 (0, 0))) := Lib.hid (fun W hW => (hW.block (w.heap.size + 1) (by omega)).trans hgb)
    replace hbx := Lib.hid hbx
    replace e2 := e2
    clear hga hgb hri m1
    go_wp2
    refine D_begin (fun w' => w'.cell? ⟨w.heap.size, 0, none⟩ = some (.slice A1 n d1) ∧ w'.cell? ⟨w.heap.size, 1, none⟩ = some (.slice A2 m d2)) (fun _ => True) 99 (by kernel_rfl) ?_
    change wpAnyD _ _ _ _ _ _ _ _ _ _ W1.drew
    simp only [List.size_toArray, List.length_cons, List.length_nil, Nat.reduceAdd, Array.replicate_succ, Array.replicate_zero, List.push_toArray, List.append_toArray, List.nil_append, List.cons_append]
    have b_Wd : Hid (Below X.heap.size X W1.drew) := Lib.hid hB1.drew
    have HS0 := HSf.out _ b_Wd.out
    have z_Wd : w.heap.size + 2 ≤ W1.drew.heap.size := by have := b_Wd.out.size; omega
    clear hB1
    generalize W1.drew = Wd at *
    refine D_take (i := 0) (v := ?_) rfl (by kernel_rfl) (by kernel_rfl) (by kernel_rfl) (by kernel_rfl) (fun _ _ _ h => h) (Or.inl ⟨by rfl, ?_⟩) HS0 (fun _ => trivial) ?_
    rotate_left; · intro w1 hw1; obtain ⟨hw1, hw2⟩ := hw1; go_simp; try with_reducible rfl
    try simp only [Act.put, List.getElem_toArray, List.getElem_cons_zero, List.getElem_cons_succ, List.setIfInBounds_toArray, List.set_cons_zero, List.set_cons_succ]
    refine D_take (i := 2) (v := ?_) rfl (by kernel_rfl) (by kernel_rfl) (by kernel_rfl) (by kernel_rfl) (fun _ _ _ h => h) (Or.inl ⟨by rfl, ?_⟩) HS0 (fun _ => trivial) ?_
    rotate_left; · intro w1 hw1; obtain ⟨hw1, hw2⟩ := hw1; go_simp; try with_reducible rfl
    try simp only [Act.put, List.getElem_toArray, List.getElem_cons_zero, List.getElem_cons_succ, List.setIfInBounds_toArray, List.set_cons_zero, List.set_cons_succ]
    refine D_take (i := 3) (v := ?_) rfl (by kernel_rfl) (by kernel_rfl) (by kernel_rfl) (by kernel_rfl) (fun _ _ _ h => h) (Or.inl ⟨by rfl, ?_⟩) HS0 (fun _ => trivial) ?_
    rotate_left; · intro w1 hw1; obtain ⟨hw1, hw2⟩ := hw1; go_simp; try with_reducible rfl
    try simp only [Act.put, List.getElem_toArray, List.getElem_cons_zero, List.getElem_cons_succ, List.setIfInBounds_toArray, List.set_cons_zero, List.set_cons_succ]
    refine D_take (i := 4) (v := ?_) rfl (by kernel_rfl) (by kernel_rfl) (by kernel_rfl) (by kernel_rfl) (fun _ _ _ h => h) (Or.inl ⟨by rfl, ?_⟩) HS0 (fun _ => trivial) ?_
    rotate_left; · intro w1 hw1; obtain ⟨hw1, hw2⟩ := hw1; go_simp; try with_reducible rfl
    try simp only [Act.put, List.getElem_toArray, List.getElem_cons_zero, List.getElem_cons_succ, List.setIfInBounds_toArray, List.set_cons_zero, List.set_cons_succ]
    refine D_take (i := 5) (v := ?_) rfl (by kernel_rfl) (by kernel_rfl) (by kernel_rfl) (by kernel_rfl) (fun _ _ _ h => h) (Or.inl ⟨by rfl, ?_⟩) HS0 (fun _ => trivial) ?_
    rotate_left; · intro w1 hw1; obtain ⟨hw1, hw2⟩ := hw1; go_simp; try with_reducible rfl
    try simp only [Act.put, List.getElem_toArray, List.getElem_cons_zero, List.getElem_cons_succ, List.setIfInBounds_toArray, List.set_cons_zero, List.set_cons_succ]
    refine D_take (i := 7) (v := ?_) rfl (by kernel_rfl) (by kernel_rfl) (by kernel_rfl) (by kernel_rfl) (fun _ _ _ h => h) (Or.inl ⟨by rfl, ?_⟩) HS0 (fun _ => trivial) ?_
    rotate_left; · intro w1 hw1; obtain ⟨hw1, hw2⟩ := hw1; go_simp; try with_reducible rfl
    try simp only [Act.put, List.getElem_toArray, List.getElem_cons_zero, List.getElem_cons_succ, List.setIfInBounds_toArray, List.set_cons_zero, List.set_cons_succ]
    refine D_take (i := 8) (v := ?_) rfl (by kernel_rfl) (by kernel_rfl) (by kernel_rfl) (by kernel_rfl) (fun _ _ _ h => h) (Or.inl ⟨by rfl, ?_⟩) HS0 (fun _ => trivial) ?_
    rotate_left; · intro w1 hw1; obtain ⟨hw1, hw2⟩ := hw1; go_simp; try with_reducible rfl
    try simp only [Act.put, List.getElem_toArray, List.getElem_cons_zero, List.getElem_cons_succ, List.setIfInBounds_toArray, List.set_cons_zero, List.set_cons_succ]
    refine D_take (i := 9) (v := ?_) rfl (by kernel_rfl) (by kernel_rfl) (by kernel_rfl) (by kernel_rfl) (fun _ _ _ h => h) (Or.inl ⟨by rfl, ?_⟩) HS0 (fun _ => trivial) ?_
    rotate_left; · intro w1 hw1; obtain ⟨hw1, hw2⟩ := hw1; go_simp; try with_reducible rfl
    try simp only [Act.put, List.getElem_toArray, List.getElem_cons_zero, List.getElem_cons_succ, List.setIfInBounds_toArray, List.set_cons_zero, List.set_cons_succ]
    clear HS0
    refine D_two (i := 1) (j := 14) (by kernel_rfl) rfl rfl ?_ ?_
    · intro K hK
      rw [if_pos (by rfl)]
      go_wp2_with fail
      refine (hln.out Wd (Below.then_ hbx.out b_Wd.out)).mono ?_; rintro e U1 ⟨rfl, hL, hb⟩
      have b_U1 := Lib.hid (Below.then_ b_Wd.out hb)
      have z_U1 : w.heap.size + 2 ≤ (U1).heap.size := Nat.le_trans z_Wd hb.size
      have L_U1 := Lib.hid hL
      clear hL hb
      refine hK _ _ (HSf.out _ b_U1.out) (fun _ _ => trivial) ?_
      clear hK K
      try simp only [Act.put, Nat.zero_add, List.getElem_toArray, List.getElem_cons_zero, List.getElem_cons_succ, List.setIfInBounds_toArray, List.set_cons_zero, List.set_cons_succ]
      refine D_two (i := 6) (j := 14) (by kernel_rfl) rfl rfl ?_ ?_
      · intro K hK
        rw [if_pos (by rfl)]
        go_wp2_with fail
        refine (hfi.out _ _ _ _ U1 L_U1.out).mono ?_; rintro e U2 ⟨⟨fv, rfl, hO⟩, hb⟩
        have b_U2 := Lib.hid (Below.then_ b_U1.out hb)
        have z_U2 : w.heap.size + 2 ≤ (U2).heap.size := Nat.le_trans z_U1 hb.size
        have F_U2 := Lib.hid (hO.rd (by rw [hfl.out]; omega))
        clear hO hb
        refine hK _ _ (HSf.out _ b_U2.out) (fun _ _ => trivial) ?_
        clear hK K
        try simp only [Act.put, Nat.zero_add, List.getElem_toArray, List.getElem_cons_zero, List.getElem_cons_succ, List.setIfInBounds_toArray, List.set_cons_zero, List.set_cons_succ]
        refine D_two (i := 10) (j := 14) (by kernel_rfl) rfl rfl ?_ ?_
        · intro K hK
          rw [if_pos (by rfl)]
          go_wp2_with fail
          refine (hft.out fv U2 F_U2.out).mono ?_; rintro e U3 ⟨v, rfl, hO, hb⟩
          have b_U3 := Lib.hid (Below.then_ b_U2.out hb)
          have z_U3 : w.heap.size + 2 ≤ (U3).heap.size := Nat.le_trans z_U2 hb.size
          have l_U3 := hb.size
          obtain ⟨vA, vn, vc, vB, vm, vd, rfl⟩ := hO.shape
          have R_U3 := Lib.hid hO
          clear hO hb
          refine hK _ _ (HSf.out _ b_U3.out) (fun _ _ => trivial) ?_
          clear hK K
          try simp only [Act.put, Nat.zero_add, List.getElem_toArray, List.getElem_cons_zero, List.getElem_cons_succ, List.setIfInBounds_toArray, List.set_cons_zero, List.set_cons_succ]
          refine D_take (i := 11) (v := ?_) rfl (by kernel_rfl) (by kernel_rfl) (by kernel_rfl) (by kernel_rfl) (fun _ _ _ h => h) (Or.inl ⟨by rfl, ?_⟩) (HSf.out _ b_U3.out) (fun _ => trivial) ?_
          rotate_left; · intro w1 hw1; go_simp; try with_reducible rfl
          try simp only [Act.put, List.getElem_toArray, List.getElem_cons_zero, List.getElem_cons_succ, List.setIfInBounds_toArray, List.set_cons_zero, List.set_cons_succ]
          refine D_take (i := 12) (v := ?_) rfl (by kernel_rfl) (by kernel_rfl) (by kernel_rfl) (by kernel_rfl) (fun _ _ _ h => h) (Or.inl ⟨by rfl, ?_⟩) (HSf.out _ b_U3.out) (fun _ => trivial) ?_
          rotate_left; · intro w1 hw1; go_simp; try with_reducible rfl
          try simp only [Act.put, List.getElem_toArray, List.getElem_cons_zero, List.getElem_cons_succ, List.setIfInBounds_toArray, List.set_cons_zero, List.set_cons_succ]
          refine D_take (i := 13) (v := ?_) rfl (by kernel_rfl) (by kernel_rfl) (by kernel_rfl) (by kernel_rfl) (fun _ _ _ h => h) (Or.inl ⟨by rfl, ?_⟩) (HSf.out _ b_U3.out) (fun _ => trivial) ?_
          rotate_left; · intro w1 hw1; go_simp; try with_reducible rfl
          try simp only [Act.put, List.getElem_toArray, List.getElem_cons_zero, List.getElem_cons_succ, List.setIfInBounds_toArray, List.set_cons_zero, List.set_cons_succ]
          refine D_one (i := 14) (by kernel_rfl) rfl ?_
          intro K hK
          rw [if_pos (by rfl)]
          go_simp
          have hb : Below U3.heap.size U3 (U3.alloc (.cells #[.slice none 0 0, .slice none 0 0] 49)) := (Below.refl _ _).alloc (Nat.le_refl _) _
          have b_U4 := Lib.hid (Below.then_ b_U3.out hb)
          have z_U4 : w.heap.size + 2 ≤ (U3.alloc (.cells #[.slice none 0 0, .slice none 0 0] 49)).heap.size := Nat.le_trans z_U3 hb.size
          have R_U4 := Lib.hid (R_U3.out.below hb)
          have l_U4 : U2.heap.size ≤ (U3.alloc (.cells #[.slice none 0 0, .slice none 0 0] 49)).heap.size := Nat.le_trans l_U3 hb.size
          have N_U4 : Hid ((U3.alloc (.cells #[.slice none 0 0, .slice none 0 0] 49)).heap[U3.heap.size]? = some (.cells #[.slice none 0 0, .slice none 0 0] 49 (0, 0))) := Lib.hid (heap_alloc_new _ _)
          have q_U4 : U3.heap.size < (U3.alloc (.cells #[.slice none 0 0, .slice none 0 0] 49)).heap.size := by simp
          clear hb
          refine hK _ _ (HSf.out _ b_U4.out) (fun _ _ => trivial) ?_
          clear hK K
          try simp only [Act.put, Nat.zero_add, List.getElem_toArray, List.getElem_cons_zero, List.getElem_cons_succ, List.setIfInBounds_toArray, List.set_cons_zero, List.set_cons_succ]
          generalize hg_U4 : U3.alloc (.cells #[.slice none 0 0, .slice none 0 0] 49) = U4 at b_U4 z_U4 R_U4 l_U4 N_U4 q_U4 ⊢
          replace hg_U4 := Lib.hid hg_U4
          have gz : w.heap.size + 2 ≤ U3.heap.size := z_U3
          obtain ⟨p0, p1, p2, p3⟩ := ret_cell N_U4.out
          refine D_one (i := 15) (by kernel_rfl) rfl ?_
          intro K hK
          rw [if_pos (by rfl)]
          go_simp
          have b_E : Hid (Below X.heap.size X ((U4.setCell ⟨U3.heap.size, 0, none⟩ (.slice vA vn vc)).setCell ⟨U3.heap.size, 1, none⟩ (.slice vB vm vd))) := Lib.hid ((b_U4.out.setCell (p := ⟨U3.heap.size, 0, none⟩) (by simp only []; omega) _).setCell (p := ⟨U3.heap.size, 1, none⟩) (by simp only []; omega) _)
          have N_E := heap_set2 (.slice vA vn vc) (.slice vB vm vd) N_U4.out
          have R_E : Hid (OwnR ((U4.setCell ⟨U3.heap.size, 0, none⟩ (.slice vA vn vc)).setCell ⟨U3.heap.size, 1, none⟩ (.slice vB vm vd)) w.heap.size (.agg #[.slice vA vn vc, .slice vB vm vd]) (FM.getD ⟨[], []⟩)) := Lib.hid (own_apart (own_kept R_U4.out (by have := l_U4; have := z_U2; omega) (fun _ _ _ => rfl)) N_U4.out)
          have R_2 : ∀ g, w.heap.size + 2 ≤ g → True := fun _ _ => trivial
          refine hK _ _ (HSf.out _ b_E.out) (fun _ _ => trivial) ?_
          clear hK K R_2 p0 p1 p2 p3
          try simp only [Act.put, Nat.zero_add, List.getElem_toArray, List.getElem_cons_zero, List.getElem_cons_succ, List.setIfInBounds_toArray, List.set_cons_zero, List.set_cons_succ]
          generalize ((U4.setCell ⟨U3.heap.size, 0, none⟩ (.slice vA vn vc)).setCell ⟨U3.heap.size, 1, none⟩ (.slice vB vm vd)) = E at b_E N_E R_E ⊢
          refine D_one (i := 16) (by kernel_rfl) rfl ?_
          intro K hK
          rw [if_pos (by rfl)]
          go_simp
          refine hK _ _ (HSf.out _ b_E.out) (fun _ _ => trivial) ?_
          clear hK K
          try simp only [Act.put, Nat.zero_add, List.getElem_toArray, List.getElem_cons_zero, List.getElem_cons_succ, List.setIfInBounds_toArray, List.set_cons_zero, List.set_cons_succ]
          refine D_done (by kernel_rfl) ?_ _
          obtain ⟨c0, c1, -, -⟩ := ret_cell N_E
          have hgE := HG.out _ b_E.out
          obtain ⟨p0, p1, p2, p3⟩ := ret_cell hgE
          replace hgE := Lib.hid hgE
          replace N_E := Lib.hid N_E
          go_wp2
          refine bodyPost_ret (res_ct rfl _ _ (w.heap.size + 1) 49 #[.slice vA vn vc, .slice vB vm vd] (0, 0) _ rfl (heap_set2 _ _ hgE.out) rfl rfl rfl) rfl ?_
          rw [hr.out]
          exact ⟨_, rfl, own_apart R_E.out hgE.out, ((Below.then_ hbx.out b_E.out).setCell (p := ⟨w.heap.size + 1, 0, none⟩) (by simp) _).setCell (p := ⟨w.heap.size + 1, 1, none⟩) (by simp) _⟩
        · intro K hK
          rw [if_pos (by rfl)]
          go_simp
          have hb : Below U2.heap.size U2 (U2.alloc (.cells #[.slice none 0 0, .slice none 0 0] 49)) := (Below.refl _ _).alloc (Nat.le_refl _) _
          have b_U5 := Lib.hid (Below.then_ b_U2.out hb)
          have z_U5 : w.heap.size + 2 ≤ (U2.alloc (.cells #[.slice none 0 0, .slice none 0 0] 49)).heap.size := Nat.le_trans z_U2 hb.size
          have F_U5 := Lib.hid (F_U2.out.below hb (Nat.le_refl _))
          have N_U5 : Hid ((U2.alloc (.cells #[.slice none 0 0, .slice none 0 0] 49)).heap[U2.heap.size]? = some (.cells #[.slice none 0 0, .slice none 0 0] 49 (0, 0))) := Lib.hid (heap_alloc_new _ _)
          have q_U5 : U2.heap.size < (U2.alloc (.cells #[.slice none 0 0, .slice none 0 0] 49)).heap.size := by simp
          clear hb
          refine hK _ _ (HSf.out _ b_U5.out) (fun _ _ => trivial) ?_
          clear hK K
          try simp only [Act.put, Nat.zero_add, List.getElem_toArray, List.getElem_cons_zero, List.getElem_cons_succ, List.setIfInBounds_toArray, List.set_cons_zero, List.set_cons_succ]
          generalize hg_U5 : U2.alloc (.cells #[.slice none 0 0, .slice none 0 0] 49) = U5 at b_U5 z_U5 F_U5 N_U5 q_U5 ⊢
          replace hg_U5 := Lib.hid hg_U5
          refine D_one (i := 10) (by kernel_rfl) rfl ?_
          intro K hK
          rw [if_pos (by rfl)]
          go_wp2_with fail
          refine (hft.out fv U5 F_U5.out).mono ?_; rintro e U6 ⟨v, rfl, hO, hb⟩
          have b_U6 := Lib.hid (Below.then_ b_U5.out hb)
          have z_U6 : w.heap.size + 2 ≤ (U6).heap.size := Nat.le_trans z_U5 hb.size
          have N_U6 := Lib.hid ((hb.block _ (lt_of_block N_U5.out)).trans N_U5.out)
          have l_U6 := hb.size
          obtain ⟨vA, vn, vc, vB, vm, vd, rfl⟩ := hO.shape
          have R_U6 := Lib.hid hO
          clear hO hb
          refine hK _ _ (HSf.out _ b_U6.out) (fun _ _ => trivial) ?_
          clear hK K
          try simp only [Act.put, Nat.zero_add, List.getElem_toArray, List.getElem_cons_zero, List.getElem_cons_succ, List.setIfInBounds_toArray, List.set_cons_zero, List.set_cons_succ]
          refine D_take (i := 11) (v := ?_) rfl (by kernel_rfl) (by kernel_rfl) (by kernel_rfl) (by kernel_rfl) (fun _ _ _ h => h) (Or.inl ⟨by rfl, ?_⟩) (HSf.out _ b_U6.out) (fun _ => trivial) ?_
          rotate_left; · intro w1 hw1; go_simp; try with_reducible rfl
          try simp only [Act.put, List.getElem_toArray, List.getElem_cons_zero, List.getElem_cons_succ, List.setIfInBounds_toArray, List.set_cons_zero, List.set_cons_succ]
          refine D_take (i := 12) (v := ?_) rfl (by kernel_rfl) (by kernel_rfl) (by kernel_rfl) (by kernel_rfl) (fun _ _ _ h => h) (Or.inl ⟨by rfl, ?_⟩) (HSf.out _ b_U6.out) (fun _ => trivial) ?_
          rotate_left; · intro w1 hw1; go_simp; try with_reducible rfl
          try simp only [Act.put, List.getElem_toArray, List.getElem_cons_zero, List.getElem_cons_succ, List.setIfInBounds_toArray, List.set_cons_zero, List.set_cons_succ]
          refine D_take (i := 13) (v := ?_) rfl (by kernel_rfl) (by kernel_rfl) (by kernel_rfl) (by kernel_rfl) (fun _ _ _ h => h) (Or.inl ⟨by rfl, ?_⟩) (HSf.out _ b_U6.out) (fun _ => trivial) ?_
          rotate_left; · intro w1 hw1; go_simp; try with_reducible rfl
          try simp only [Act.put, List.getElem_toArray, List.getElem_cons_zero, List.getElem_cons_succ, List.setIfInBounds_toArray, List.set_cons_zero, List.set_cons_succ]
          have gz : w.heap.size + 2 ≤ U2.heap.size := z_U2
          obtain ⟨p0, p1, p2, p3⟩ := ret_cell N_U6.out
          refine D_one (i := 15) (by kernel_rfl) rfl ?_
          intro K hK
          rw [if_pos (by rfl)]
          go_simp
          have b_E : Hid (Below X.heap.size X ((U6.setCell ⟨U2.heap.size, 0, none⟩ (.slice vA vn vc)).setCell ⟨U2.heap.size, 1, none⟩ (.slice vB vm vd))) := Lib.hid ((b_U6.out.setCell (p := ⟨U2.heap.size, 0, none⟩) (by simp only []; omega) _).setCell (p := ⟨U2.heap.size, 1, none⟩) (by simp only []; omega) _)
          have N_E := heap_set2 (.slice vA vn vc) (.slice vB vm vd) N_U6.out
          have R_E : Hid (OwnR ((U6.setCell ⟨U2.heap.size, 0, none⟩ (.slice vA vn vc)).setCell ⟨U2.heap.size, 1, none⟩ (.slice vB vm vd)) w.heap.size (.agg #[.slice vA vn vc, .slice vB vm vd]) (FM.getD ⟨[], []⟩)) := Lib.hid (own_apart (own_kept R_U6.out (by have := l_U6; have := z_U5; omega) (fun _ _ _ => rfl)) N_U6.out)
          have R_2 : ∀ g, w.heap.size + 2 ≤ g → True := fun _ _ => trivial
          refine hK _ _ (HSf.out _ b_E.out) (fun _ _ => trivial) ?_
          clear hK K R_2 p0 p1 p2 p3
          try simp only [Act.put, Nat.zero_add, List.getElem_toArray, List.getElem_cons_zero, List.getElem_cons_succ, List.setIfInBounds_toArray, List.set_cons_zero, List.set_cons_succ]
          generalize ((U6.setCell ⟨U2.heap.size, 0, none⟩ (.slice vA vn vc)).setCell ⟨U2.heap.size, 1, none⟩ (.slice vB vm vd)) = E at b_E N_E R_E ⊢
          refine D_one (i := 16) (by kernel_rfl) rfl ?_
          intro K hK
          rw [if_pos (by rfl)]
          go_simp
          refine hK _ _ (HSf.out _ b_E.out) (fun _ _ => trivial) ?_
          clear hK K
          try simp only [Act.put, Nat.zero_add, List.getElem_toArray, List.getElem_cons_zero, List.getElem_cons_succ, List.setIfInBounds_toArray, List.set_cons_zero, List.set_cons_succ]
          refine D_done (by kernel_rfl) ?_ _
          obtain ⟨c0, c1, -, -⟩ := ret_cell N_E
          have hgE := HG.out _ b_E.out
          obtain ⟨p0, p1, p2, p3⟩ := ret_cell hgE
          replace hgE := Lib.hid hgE
          replace N_E := Lib.hid N_E
          go_wp2
          refine bodyPost_ret (res_ct rfl _ _ (w.heap.size + 1) 49 #[.slice vA vn vc, .slice vB vm vd] (0, 0) _ rfl (heap_set2 _ _ hgE.out) rfl rfl rfl) rfl ?_
          rw [hr.out]
          exact ⟨_, rfl, own_apart R_E.out hgE.out, ((Below.then_ hbx.out b_E.out).setCell (p := ⟨w.heap.size + 1, 0, none⟩) (by simp) _).setCell (p := ⟨w.heap.size + 1, 1, none⟩) (by simp) _⟩
      · intro K hK
        rw [if_pos (by rfl)]
        go_simp
        have hb : Below U1.heap.size U1 (U1.alloc (.cells #[.slice none 0 0, .slice none 0 0] 49)) := (Below.refl _ _).alloc (Nat.le_refl _) _
        have b_U7 := Lib.hid (Below.then_ b_U1.out hb)
        have z_U7 : w.heap.size + 2 ≤ (U1.alloc (.cells #[.slice none 0 0, .slice none 0 0] 49)).heap.size := Nat.le_trans z_U1 hb.size
        have L_U7 := Lib.hid (L_U1.out.below hb)
        have N_U7 : Hid ((U1.alloc (.cells #[.slice none 0 0, .slice none 0 0] 49)).heap[U1.heap.size]? = some (.cells #[.slice none 0 0, .slice none 0 0] 49 (0, 0))) := Lib.hid (heap_alloc_new _ _)
        have q_U7 : U1.heap.size < (U1.alloc (.cells #[.slice none 0 0, .slice none 0 0] 49)).heap.size := by simp
        clear hb
        refine hK _ _ (HSf.out _ b_U7.out) (fun _ _ => trivial) ?_
        clear hK K
        try simp only [Act.put, Nat.zero_add, List.getElem_toArray, List.getElem_cons_zero, List.getElem_cons_succ, List.setIfInBounds_toArray, List.set_cons_zero, List.set_cons_succ]
        generalize hg_U7 : U1.alloc (.cells #[.slice none 0 0, .slice none 0 0] 49) = U7 at b_U7 z_U7 L_U7 N_U7 q_U7 ⊢
        replace hg_U7 := Lib.hid hg_U7
        refine D_one (i := 6) (by kernel_rfl) rfl ?_
        intro K hK
        rw [if_pos (by rfl)]
        go_wp2_with fail
        refine (hfi.out _ _ _ _ U7 L_U7.out).mono ?_; rintro e U8 ⟨⟨fv, rfl, hO⟩, hb⟩
        have b_U8 := Lib.hid (Below.then_ b_U7.out hb)
        have z_U8 : w.heap.size + 2 ≤ (U8).heap.size := Nat.le_trans z_U7 hb.size
        have N_U8 := Lib.hid ((hb.block _ (lt_of_block N_U7.out)).trans N_U7.out)
        have F_U8 := Lib.hid (hO.rd (by rw [hfl.out]; omega))
        clear hO hb
        refine hK _ _ (HSf.out _ b_U8.out) (fun _ _ => trivial) ?_
        clear hK K
        try simp only [Act.put, Nat.zero_add, List.getElem_toArray, List.getElem_cons_zero, List.getElem_cons_succ, List.setIfInBounds_toArray, List.set_cons_zero, List.set_cons_succ]
        refine D_one (i := 10) (by kernel_rfl) rfl ?_
        intro K hK
        rw [if_pos (by rfl)]
        go_wp2_with fail
        refine (hft.out fv U8 F_U8.out).mono ?_; rintro e U9 ⟨v, rfl, hO, hb⟩
        have b_U9 := Lib.hid (Below.then_ b_U8.out hb)
        have z_U9 : w.heap.size + 2 ≤ (U9).heap.size := Nat.le_trans z_U8 hb.size
        have N_U9 := Lib.hid ((hb.block _ (lt_of_block N_U8.out)).trans N_U8.out)
        have l_U9 := hb.size
        obtain ⟨vA, vn, vc, vB, vm, vd, rfl⟩ := hO.shape
        have R_U9 := Lib.hid hO
        clear hO hb
        refine hK _ _ (HSf.out _ b_U9.out) (fun _ _ => trivial) ?_
        clear hK K
        try simp only [Act.put, Nat.zero_add, List.getElem_toArray, List.getElem_cons_zero, List.getElem_cons_succ, List.setIfInBounds_toArray, List.set_cons_zero, List.set_cons_succ]
        refine D_take (i := 11) (v := ?_) rfl (by kernel_rfl) (by kernel_rfl) (by kernel_rfl) (by kernel_rfl) (fun _ _ _ h => h) (Or.inl ⟨by rfl, ?_⟩) (HSf.out _ b_U9.out) (fun _ => trivial) ?_
        rotate_left; · intro w1 hw1; go_simp; try with_reducible rfl
        try simp only [Act.put, List.getElem_toArray, List.getElem_cons_zero, List.getElem_cons_succ, List.setIfInBounds_toArray, List.set_cons_zero, List.set_cons_succ]
        refine D_take (i := 12) (v := ?_) rfl (by kernel_rfl) (by kernel_rfl) (by kernel_rfl) (by kernel_rfl) (fun _ _ _ h => h) (Or.inl ⟨by rfl, ?_⟩) (HSf.out _ b_U9.out) (fun _ => trivial) ?_
        rotate_left; · intro w1 hw1; go_simp; try with_reducible rfl
        try simp only [Act.put, List.getElem_toArray, List.getElem_cons_zero, List.getElem_cons_succ, List.setIfInBounds_toArray, List.set_cons_zero, List.set_cons_succ]
        refine D_take (i := 13) (v := ?_) rfl (by kernel_rfl) (by kernel_rfl) (by kernel_rfl) (by kernel_rfl) (fun _ _ _ h => h) (Or.inl ⟨by rfl, ?_⟩) (HSf.out _ b_U9.out) (fun _ => trivial) ?_
        rotate_left; · intro w1 hw1; go_simp; try with_reducible rfl
        try simp only [Act.put, List.getElem_toArray, List.getElem_cons_zero, List.getElem_cons_succ, List.setIfInBounds_toArray, List.set_cons_zero, List.set_cons_succ]
        have gz : w.heap.size + 2 ≤ U1.heap.size := z_U1
        obtain ⟨p0, p1, p2, p3⟩ := ret_cell N_U9.out
        refine D_one (i := 15) (by kernel_rfl) rfl ?_
        intro K hK
        rw [if_pos (by rfl)]
        go_simp
        have b_E : Hid (Below X.heap.size X ((U9.setCell ⟨U1.heap.size, 0, none⟩ (.slice vA vn vc)).setCell ⟨U1.heap.size, 1, none⟩ (.slice vB vm vd))) := Lib.hid ((b_U9.out.setCell (p := ⟨U1.heap.size, 0, none⟩) (by simp only []; omega) _).setCell (p := ⟨U1.heap.size, 1, none⟩) (by simp only []; omega) _)
        have N_E := heap_set2 (.slice vA vn vc) (.slice vB vm vd) N_U9.out
        have R_E : Hid (OwnR ((U9.setCell ⟨U1.heap.size, 0, none⟩ (.slice vA vn vc)).setCell ⟨U1.heap.size, 1, none⟩ (.slice vB vm vd)) w.heap.size (.agg #[.slice vA vn vc, .slice vB vm vd]) (FM.getD ⟨[], []⟩)) := Lib.hid (own_apart (own_kept R_U9.out (by have := l_U9; have := z_U8; omega) (fun _ _ _ => rfl)) N_U9.out)
        have R_2 : ∀ g, w.heap.size + 2 ≤ g → True := fun _ _ => trivial
        refine hK _ _ (HSf.out _ b_E.out) (fun _ _ => trivial) ?_
        clear hK K R_2 p0 p1 p2 p3
        try simp only [Act.put, Nat.zero_add, List.getElem_toArray, List.getElem_cons_zero, List.getElem_cons_succ, List.setIfInBounds_toArray, List.set_cons_zero, List.set_cons_succ]
        generalize ((U9.setCell ⟨U1.heap.size, 0, none⟩ (.slice vA vn vc)).setCell ⟨U1.heap.size, 1, none⟩ (.slice vB vm vd)) = E at b_E N_E R_E ⊢
        refine D_one (i := 16) (by kernel_rfl) rfl ?_
        intro K hK
        rw [if_pos (by rfl)]
        go_simp
        refine hK _ _ (HSf.out _ b_E.out) (fun _ _ => trivial) ?_
        clear hK K
        try simp only [Act.put, Nat.zero_add, List.getElem_toArray, List.getElem_cons_zero, List.getElem_cons_succ, List.setIfInBounds_toArray, List.set_cons_zero, List.set_cons_succ]
        refine D_done (by kernel_rfl) ?_ _
        obtain ⟨c0, c1, -, -⟩ := ret_cell N_E
        have hgE := HG.out _ b_E.out
        obtain ⟨p0, p1, p2, p3⟩ := ret_cell hgE
        replace hgE := Lib.hid hgE
        replace N_E := Lib.hid N_E
        go_wp2
        refine bodyPost_ret (res_ct rfl _ _ (w.heap.size + 1) 49 #[.slice vA vn vc, .slice vB vm vd] (0, 0) _ rfl (heap_set2 _ _ hgE.out) rfl rfl rfl) rfl ?_
        rw [hr.out]
        exact ⟨_, rfl, own_apart R_E.out hgE.out, ((Below.then_ hbx.out b_E.out).setCell (p := ⟨w.heap.size + 1, 0, none⟩) (by simp) _).setCell (p := ⟨w.heap.size + 1, 1, none⟩) (by simp) _⟩
    · intro K hK
      rw [if_pos (by rfl)]
      go_simp
      have hb : Below Wd.heap.size Wd (Wd.alloc (.cells #[.slice none 0 0, .slice none 0 0] 49)) := (Below.refl _ _).alloc (Nat.le_refl _) _
      have b_U10 := Lib.hid (Below.then_ b_Wd.out hb)
      have z_U10 : w.heap.size + 2 ≤ (Wd.alloc (.cells #[.slice none 0 0, .slice none 0 0] 49)).heap.size := Nat.le_trans z_Wd hb.size
      have N_U10 : Hid ((Wd.alloc (.cells #[.slice none 0 0, .slice none 0 0] 49)).heap[Wd.heap.size]? = some (.cells #[.slice none 0 0, .slice none 0 0] 49 (0, 0))) := Lib.hid (heap_alloc_new _ _)
      have q_U10 : Wd.heap.size < (Wd.alloc (.cells #[.slice none 0 0, .slice none 0 0] 49)).heap.size := by simp
      clear hb
      refine hK _ _ (HSf.out _ b_U10.out) (fun _ _ => trivial) ?_
      clear hK K
      try simp only [Act.put, Nat.zero_add, List.getElem_toArray, List.getElem_cons_zero, List.getElem_cons_succ, List.setIfInBounds_toArray, List.set_cons_zero, List.set_cons_succ]
      generalize hg_U10 : Wd.alloc (.cells #[.slice none 0 0, .slice none 0 0] 49) = U10 at b_U10 z_U10 N_U10 q_U10 ⊢
      replace hg_U10 := Lib.hid hg_U10
      refine D_one (i := 1) (by kernel_rfl) rfl ?_
      intro K hK
      rw [if_pos (by rfl)]
      go_wp2_with fail
      refine (hln.out U10 (Below.then_ hbx.out b_U10.out)).mono ?_; rintro e U11 ⟨rfl, hL, hb⟩
      have b_U11 := Lib.hid (Below.then_ b_U10.out hb)
      have z_U11 : w.heap.size + 2 ≤ (U11).heap.size := Nat.le_trans z_U10 hb.size
      have N_U11 := Lib.hid ((hb.block _ (lt_of_block N_U10.out)).trans N_U10.out)
      have L_U11 := Lib.hid hL
      clear hL hb
      refine hK _ _ (HSf.out _ b_U11.out) (fun _ _ => trivial) ?_
      clear hK K
      try simp only [Act.put, Nat.zero_add, List.getElem_toArray, List.getElem_cons_zero, List.getElem_cons_succ, List.setIfInBounds_toArray, List.set_cons_zero, List.set_cons_succ]
      refine D_one (i := 6) (by kernel_rfl) rfl ?_
      intro K hK
      rw [if_pos (by rfl)]
      go_wp2_with fail
      refine (hfi.out _ _ _ _ U11 L_U11.out).mono ?_; rintro e U12 ⟨⟨fv, rfl, hO⟩, hb⟩
      have b_U12 := Lib.hid (Below.then_ b_U11.out hb)
      have z_U12 : w.heap.size + 2 ≤ (U12).heap.size := Nat.le_trans z_U11 hb.size
      have N_U12 := Lib.hid ((hb.block _ (lt_of_block N_U11.out)).trans N_U11.out)
      have F_U12 := Lib.hid (hO.rd (by rw [hfl.out]; omega))
      clear hO hb
      refine hK _ _ (HSf.out _ b_U12.out) (fun _ _ => trivial) ?_
      clear hK K
      try simp only [Act.put, Nat.zero_add, List.getElem_toArray, List.getElem_cons_zero, List.getElem_cons_succ, List.setIfInBounds_toArray, List.set_cons_zero, List.set_cons_succ]
      refine D_one (i := 10) (by kernel_rfl) rfl ?_
      intro K hK
      rw [if_pos (by rfl)]
      go_wp2_with fail
      refine (hft.out fv U12 F_U12.out).mono ?_; rintro e U13 ⟨v, rfl, hO, hb⟩
      have b_U13 := Lib.hid (Below.then_ b_U12.out hb)
      have z_U13 : w.heap.size + 2 ≤ (U13).heap.size := Nat.le_trans z_U12 hb.size
      have N_U13 := Lib.hid ((hb.block _ (lt_of_block N_U12.out)).trans N_U12.out)
      have l_U13 := hb.size
      obtain ⟨vA, vn, vc, vB, vm, vd, rfl⟩ := hO.shape
      have R_U13 := Lib.hid hO
      clear hO hb
      refine hK _ _ (HSf.out _ b_U13.out) (fun _ _ => trivial) ?_
      clear hK K
      try simp only [Act.put, Nat.zero_add, List.getElem_toArray, List.getElem_cons_zero, List.getElem_cons_succ, List.setIfInBounds_toArray, List.set_cons_zero, List.set_cons_succ]
      refine D_take (i := 11) (v := ?_) rfl (by kernel_rfl) (by kernel_rfl) (by kernel_rfl) (by kernel_rfl) (fun _ _ _ h => h) (Or.inl ⟨by rfl, ?_⟩) (HSf.out _ b_U13.out) (fun _ => trivial) ?_
      rotate_left; · intro w1 hw1; go_simp; try with_reducible rfl
      try simp only [Act.put, List.getElem_toArray, List.getElem_cons_zero, List.getElem_cons_succ, List.setIfInBounds_toArray, List.set_cons_zero, List.set_cons_succ]
      refine D_take (i := 12) (v := ?_) rfl (by kernel_rfl) (by kernel_rfl) (by kernel_rfl) (by kernel_rfl) (fun _ _ _ h => h) (Or.inl ⟨by rfl, ?_⟩) (HSf.out _ b_U13.out) (fun _ => trivial) ?_
      rotate_left; · intro w1 hw1; go_simp; try with_reducible rfl
      try simp only [Act.put, List.getElem_toArray, List.getElem_cons_zero, List.getElem_cons_succ, List.setIfInBounds_toArray, List.set_cons_zero, List.set_cons_succ]
      refine D_take (i := 13) (v := ?_) rfl (by kernel_rfl) (by kernel_rfl) (by kernel_rfl) (by kernel_rfl) (fun _ _ _ h => h) (Or.inl ⟨by rfl, ?_⟩) (HSf.out _ b_U13.out) (fun _ => trivial) ?_
      rotate_left; · intro w1 hw1; go_simp; try with_reducible rfl
      try simp only [Act.put, List.getElem_toArray, List.getElem_cons_zero, List.getElem_cons_succ, List.setIfInBounds_toArray, List.set_cons_zero, List.set_cons_succ]
      have gz : w.heap.size + 2 ≤ Wd.heap.size := z_Wd
      obtain ⟨p0, p1, p2, p3⟩ := ret_cell N_U13.out
      refine D_one (i := 15) (by kernel_rfl) rfl ?_
      intro K hK
      rw [if_pos (by rfl)]
      go_simp
      have b_E : Hid (Below X.heap.size X ((U13.setCell ⟨Wd.heap.size, 0, none⟩ (.slice vA vn vc)).setCell ⟨Wd.heap.size, 1, none⟩ (.slice vB vm vd))) := Lib.hid ((b_U13.out.setCell (p := ⟨Wd.heap.size, 0, none⟩) (by simp only []; omega) _).setCell (p := ⟨Wd.heap.size, 1, none⟩) (by simp only []; omega) _)
      have N_E := heap_set2 (.slice vA vn vc) (.slice vB vm vd) N_U13.out
      have R_E : Hid (OwnR ((U13.setCell ⟨Wd.heap.size, 0, none⟩ (.slice vA vn vc)).setCell ⟨Wd.heap.size, 1, none⟩ (.slice vB vm vd)) w.heap.size (.agg #[.slice vA vn vc, .slice vB vm vd]) (FM.getD ⟨[], []⟩)) := Lib.hid (own_apart (own_kept R_U13.out (by have := l_U13; have := z_U12; omega) (fun _ _ _ => rfl)) N_U13.out)
      have R_2 : ∀ g, w.heap.size + 2 ≤ g → True := fun _ _ => trivial
      refine hK _ _ (HSf.out _ b_E.out) (fun _ _ => trivial) ?_
      clear hK K R_2 p0 p1 p2 p3
      try simp only [Act.put, Nat.zero_add, List.getElem_toArray, List.getElem_cons_zero, List.getElem_cons_succ, List.setIfInBounds_toArray, List.set_cons_zero, List.set_cons_succ]
      generalize ((U13.setCell ⟨Wd.heap.size, 0, none⟩ (.slice vA vn vc)).setCell ⟨Wd.heap.size, 1, none⟩ (.slice vB vm vd)) = E at b_E N_E R_E ⊢
      refine D_one (i := 16) (by kernel_rfl) rfl ?_
      intro K hK
      rw [if_pos (by rfl)]
      go_simp
      refine hK _ _ (HSf.out _ b_E.out) (fun _ _ => trivial) ?_
      clear hK K
      try simp only [Act.put, Nat.zero_add, List.getElem_toArray, List.getElem_cons_zero, List.getElem_cons_succ, List.setIfInBounds_toArray, List.set_cons_zero, List.set_cons_succ]
      refine D_done (by kernel_rfl) ?_ _
      obtain ⟨c0, c1, -, -⟩ := ret_cell N_E
      have hgE := HG.out _ b_E.out
      obtain ⟨p0, p1, p2, p3⟩ := ret_cell hgE
      replace hgE := Lib.hid hgE
      replace N_E := Lib.hid N_E
      go_wp2
      refine bodyPost_ret (res_ct rfl _ _ (w.heap.size + 1) 49 #[.slice vA vn vc, .slice vB vm vd] (0, 0) _ rfl (heap_set2 _ _ hgE.out) rfl rfl rfl) rfl ?_
      rw [hr.out]
      exact ⟨_, rfl, own_apart R_E.out hgE.out, ((Below.then_ hbx.out b_E.out).setCell (p := ⟨w.heap.size + 1, 0, none⟩) (by simp) _).setCell (p := ⟨w.heap.size + 1, 1, none⟩) (by simp) _⟩
  · have hr : Hid (shortR r = (⟨[], []⟩, rightR r)) := Lib.hid (by rw [shortR, if_pos h0])
    have hne : (rightR r != 0) = true := by rw [bne_iff_ne]; exact h0
    generalize rightR r = x at *
    clear hR h0
    generalize r.by_.length = n at *
    generalize r.start.length = m at *
    go_enter Tryd.func48, Tryd.ntmps48
    go_wp2_with fail
    generalize (w.alloc (.cells #[.slice A1 n d1, .slice A2 m d2] 49)).alloc (.cells #[.slice none 0 0, .slice none 0 0] 49) = X at *
    refine hri.out.mono ?_; rintro e W1 ⟨rfl, hB1⟩
    have hB2 := Below.then_ hbx hB1
    have hg2 := (hB1.block (w.heap.size + 1) (by omega)).trans hgb
    obtain ⟨p0, p1, p2, p3⟩ := ret_cell hg2
    clear hga hgb hsz hbx
    go_wp2
    refine bodyPost_ret (res_ct rfl _ _ (w.heap.size + 1) 49 #[.slice none 0 0, .slice none 0 0] (0, 0) _ rfl (heap_set2 _ _ hg2) rfl rfl rfl) rfl ?_
    rw [hr.out]
    exact ⟨_, rfl, ⟨_, _, rfl, OwnI_nil _ _, OwnI_nil _ _⟩, (hB2.setCell (p := ⟨w.heap.size + 1, 0, none⟩) (by simp) _).setCell (p := ⟨w.heap.size + 1, 1, none⟩) (by simp) _⟩
end Go.Proofs.YtfljkcmijnhgkaaDoor
