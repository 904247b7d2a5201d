/- The reference's Own: its contract. The reference's steps: its contract. The reference's window: its contract. Terms far away: the powers of a rule's matrix. -/
import Derived.Test.YtfljkcmijnhgkaaDoorKu
import Derived.Test.YtfljkcmijnhgkaaDoorKg
import Derived.Test.YtfljkcmijnhgkaaDoorKq
import Derived.Laws.IdiomCopy
import Derived.Test.YtfljkcmijnhgkaaDoorKr
import Derived.Test.YtfljkcmijnhgkaaDoorKza
import Derived.Test.YtfljkcmijnhgkaaDoorKwd
namespace Go.Proofs.YtfljkcmijnhgkaaDoor
open Go.RowKit Go.Shelf
set_option linter.unusedSimpArgs false

/-- A row that is a cell's whole struct. -/
theorem res_c {P : Program} {fn : Func} {p : Tmp} {ty : TypeId} (h : fn.results = #[.cell p ty]) (tmps : Array Value) (w : World) (g : Nat) (t : TypeId) (cs : Array Value) (fr : Nat × Nat) (d : TypeDesc)
    (hp : tmps.getD p undef = .pointer (some ⟨g, 0, none⟩)) (hg : w.heap[g]? = some (.cells cs t fr))
    (hu : P.underlying ty = some d) (hd : (match d with | .struct _ | .array _ _ => true | _ => false) = true) (hi : (P.info? ty).map (·.size) = some cs.size) :
    (results fn tmps).run P w = .ok (.agg cs) w := by
  have hp' : tmps[p]?.getD undef = .pointer (some ⟨g, 0, none⟩) := by simpa using hp
  simp [results, h, hp', asAddr, run_loadVar_row w g t ty cs fr d hg hu hd hi]
set_option maxRecDepth 100000 in
set_option maxHeartbeats 6400000 in
theorem Own_any (r : Rule) (v : Value) (w : World) (h : RdR w v r) (h1 : r.by_.length ≤ 1000) (h2 : r.start.length ≤ 1000) :
    Calls Tryd.prog 34 #[v] w fun e w' => (∃ u, e = .returned u ∧ OwnR w' w.heap.size u r) ∧ Below w.heap.size w w' := by
  obtain ⟨a, b, rfl, ra, rb⟩ := h
  have hbx : Below w.heap.size w ((w.alloc (.cells #[a, b] 49)).alloc (.cells #[.slice none 0 0, .slice none 0 0] 49)) := ((Below.refl _ _).alloc (Nat.le_refl _) _).alloc (by simp) _
  have hga : ((w.alloc (.cells #[a, b] 49)).alloc (.cells #[.slice none 0 0, .slice none 0 0] 49)).heap[w.heap.size]? = some (.cells #[a, b] 49 (0, 0)) := by
    rw [((Below.refl _ (w.alloc (.cells #[a, b] 49))).alloc (Nat.le_refl _) _).block w.heap.size (by simp)]; exact heap_alloc_new _ _
  have hgb : ((w.alloc (.cells #[a, b] 49)).alloc (.cells #[.slice none 0 0, .slice none 0 0] 49)).heap[w.heap.size + 1]? = some (.cells #[.slice none 0 0, .slice none 0 0] 49 (0, 0)) := by
    have h := heap_alloc_new (w.alloc (.cells #[a, b] 49)) (.cells #[.slice none 0 0, .slice none 0 0] 49); rwa [World.size_alloc] at h
  have hsz : ((w.alloc (.cells #[a, b] 49)).alloc (.cells #[.slice none 0 0, .slice none 0 0] 49)).heap.size = w.heap.size + 2 := by simp
  have hra := Lib.hid (fun W (hW : Below w.heap.size w W) => ra.below hW (Nat.le_refl _))
  have hrb := Lib.hid (fun W (hW : Below w.heap.size w W) => rb.below hW (Nat.le_refl _))
  clear ra rb
  go_enter Tryd.func34, Tryd.ntmps34
  go_wp2
  generalize (w.alloc (.cells #[a, b] 49)).alloc (.cells #[.slice none 0 0, .slice none 0 0] 49) = X at hbx hga hgb hsz ⊢
  have mk : ∀ (W : World) (g : Nat) (x y : Value), W.heap[g]? = some (.cells #[x, y] 49 (0, 0)) → W.cell? ⟨g, 0, none⟩ = some x ∧ W.cell? ⟨g, 1, none⟩ = some y := fun W g x y h => ⟨by unfold World.cell?; rw [h]; rfl, by unfold World.cell?; rw [h]; rfl⟩
  have HS : Hid (∀ W, Below X.heap.size X W → W.cell? ⟨w.heap.size, 0, none⟩ = some a ∧ W.cell? ⟨w.heap.size, 1, none⟩ = some b) := Lib.hid (fun W hW => mk W _ _ _ ((hW.block _ (by omega)).trans hga))
  have HG : Hid (∀ W, Below X.heap.size X W → W.heap[w.heap.size + 1]? = some (.cells #[.slice none 0 0, .slice none 0 0] 49 (0, 0))) := Lib.hid (fun W hW => (hW.block _ (by omega)).trans hgb)
  have HB : Hid (∀ W, Below X.heap.size X W → Below w.heap.size w W) := Lib.hid (fun W hW => Below.then_ hbx hW)
  have HS0 := HS.out X.drew (Below.refl _ X).drew
  have b_Wd : Hid (Below X.heap.size X X.drew) := Lib.hid (Below.refl _ X).drew
  clear hga hgb hbx
  replace hsz := Lib.hid hsz
  refine D_begin (fun w' => w'.cell? ⟨w.heap.size, 0, none⟩ = some a ∧ w'.cell? ⟨w.heap.size, 1, none⟩ = some b) (fun _ => True) 99 (by kernel_rfl) ?_
  change wpAnyD _ _ _ _ _ _ _ _ _ _ X.drew
  simp only [List.size_toArray, List.length_cons, List.length_nil, Nat.reduceAdd, Array.replicate_succ, Array.replicate_zero, List.push_toArray, List.append_toArray, List.nil_append, List.cons_append]
  refine D_take (i := 1) (v := ?_) rfl (by kernel_rfl) (by kernel_rfl) (by kernel_rfl) (by kernel_rfl) (fun _ _ _ h => h) (Or.inl ⟨by rfl, ?_⟩) HS0 (fun _ => trivial) ?_
  rotate_left; · intro w1 hw1; obtain ⟨hw1, hw2⟩ := hw1; go_simp; try with_reducible rfl
  try simp only [Act.put, List.getElem_toArray, List.getElem_cons_zero, List.getElem_cons_succ, List.setIfInBounds_toArray, List.set_cons_zero, List.set_cons_succ]
  refine D_take (i := 2) (v := ?_) rfl (by kernel_rfl) (by kernel_rfl) (by kernel_rfl) (by kernel_rfl) (fun _ _ _ h => h) (Or.inl ⟨by rfl, ?_⟩) HS0 (fun _ => trivial) ?_
  rotate_left; · intro w1 hw1; obtain ⟨hw1, hw2⟩ := hw1; go_simp; try with_reducible rfl
  try simp only [Act.put, List.getElem_toArray, List.getElem_cons_zero, List.getElem_cons_succ, List.setIfInBounds_toArray, List.set_cons_zero, List.set_cons_succ]
  refine D_take (i := 5) (v := ?_) rfl (by kernel_rfl) (by kernel_rfl) (by kernel_rfl) (by kernel_rfl) (fun _ _ _ h => h) (Or.inl ⟨by rfl, ?_⟩) HS0 (fun _ => trivial) ?_
  rotate_left; · intro w1 hw1; obtain ⟨hw1, hw2⟩ := hw1; go_simp; try with_reducible rfl
  try simp only [Act.put, List.getElem_toArray, List.getElem_cons_zero, List.getElem_cons_succ, List.setIfInBounds_toArray, List.set_cons_zero, List.set_cons_succ]
  refine D_take (i := 6) (v := ?_) rfl (by kernel_rfl) (by kernel_rfl) (by kernel_rfl) (by kernel_rfl) (fun _ _ _ h => h) (Or.inl ⟨by rfl, ?_⟩) HS0 (fun _ => trivial) ?_
  rotate_left; · intro w1 hw1; obtain ⟨hw1, hw2⟩ := hw1; go_simp; try with_reducible rfl
  try simp only [Act.put, List.getElem_toArray, List.getElem_cons_zero, List.getElem_cons_succ, List.setIfInBounds_toArray, List.set_cons_zero, List.set_cons_succ]
  clear HS0
  generalize X.drew = Wd at b_Wd ⊢
  refine D_two (i := 0) (j := 4) (by kernel_rfl) rfl rfl ?_ ?_
  · intro K hK
    rw [if_pos (by rfl)]
    go_simp
    have b_W1 : Hid (Below X.heap.size X (Wd.alloc (.cells #[] 3))) := Lib.hid (b_Wd.out.alloc (b_Wd.out.size) _)
    have z_W1 : (Wd.alloc (.cells #[] 3)).heap.size = Wd.heap.size + 1 := World.size_alloc _ _
    have s0_W1 : Hid ((Wd.alloc (.cells #[] 3)).ownsRow X.heap.size 3 1 (.slice (some ⟨Wd.heap.size, 0, none⟩) 0 0) 0 []) := Lib.hid (World.ownsRow_made Wd #[] 0 (b_Wd.out.size) (by unfold maxLen; omega) rfl)
    refine hK _ _ (HS.out _ b_W1.out) (fun _ _ => trivial) ?_
    try simp only [Act.put, Nat.zero_add, List.getElem_toArray, List.getElem_cons_zero, List.getElem_cons_succ, List.setIfInBounds_toArray, List.set_cons_zero, List.set_cons_succ]
    clear hK K
    generalize hg_W1 : Wd.alloc (.cells #[] 3) = W1 at b_W1 z_W1 s0_W1 ⊢
    replace hg_W1 := Lib.hid hg_W1
    replace z_W1 := Lib.hid z_W1
    refine D_two (i := 3) (j := 4) (by kernel_rfl) rfl rfl ?_ ?_
    · intro K hK
      refine step_append_rd (by rfl) _ _ (by rfl) X.heap.size (.slice (some ⟨Wd.heap.size, 0, none⟩) 0 0) a 0 [] r.by_ (by rfl) (by rfl) s0_W1.out (hra.out _ (HB.out _ b_W1.out)) (by omega) (b_W1.out.size) ?_
      intro v1 W2 hown3 hgrow3 hat3
      simp only [Nat.zero_add, List.nil_append] at hown3
      obtain ⟨A1, c1, rfl⟩ := own_shape hown3
      have b_W2 : Hid (Below X.heap.size X W2) := Lib.hid (b_W1.out.grown hgrow3 (b_W1.out.size) (fun q hq => (s0_W1.out.lt q hq).1))
      have v1_W2 := Lib.hid hown3
      clear hown3 hgrow3 hat3
      refine hK _ _ (HS.out _ b_W2.out) (fun _ _ => trivial) ?_
      try simp only [Act.put, Nat.zero_add, List.getElem_toArray, List.getElem_cons_zero, List.getElem_cons_succ, List.setIfInBounds_toArray, List.set_cons_zero, List.set_cons_succ]
      clear hK K
      refine D_one (i := 4) (by kernel_rfl) rfl ?_
      intro K hK
      rw [if_pos (by rfl)]
      go_simp
      have b_W3 : Hid (Below X.heap.size X (W2.alloc (.cells #[] 3))) := Lib.hid (b_W2.out.alloc (b_W2.out.size) _)
      have z_W3 : (W2.alloc (.cells #[] 3)).heap.size = W2.heap.size + 1 := World.size_alloc _ _
      have s4_W3 : Hid ((W2.alloc (.cells #[] 3)).ownsRow X.heap.size 3 1 (.slice (some ⟨W2.heap.size, 0, none⟩) 0 0) 0 []) := Lib.hid (World.ownsRow_made W2 #[] 0 (b_W2.out.size) (by unfold maxLen; omega) rfl)
      have v1_W3 := Lib.hid (own_below v1_W2.out ((Below.refl W2.heap.size W2).alloc (Nat.le_refl _) (.cells #[] 3)))
      refine hK _ _ (HS.out _ b_W3.out) (fun _ _ => trivial) ?_
      try simp only [Act.put, Nat.zero_add, List.getElem_toArray, List.getElem_cons_zero, List.getElem_cons_succ, List.setIfInBounds_toArray, List.set_cons_zero, List.set_cons_succ]
      clear hK K
      generalize hg_W3 : W2.alloc (.cells #[] 3) = W3 at b_W3 z_W3 s4_W3 v1_W3 ⊢
      replace hg_W3 := Lib.hid hg_W3
      replace z_W3 := Lib.hid z_W3
      have ne : Hid ((Value.slice A1 r.by_.length c1).ownBlock ≠ some W2.heap.size) := Lib.hid (fun e => by have := (v1_W2.out.lt _ e).2; omega)
      refine D_one (i := 7) (by kernel_rfl) rfl ?_
      intro K hK
      refine step_append_rd (by rfl) _ _ (by rfl) X.heap.size (.slice (some ⟨W2.heap.size, 0, none⟩) 0 0) b 0 [] r.start (by rfl) (by rfl) s4_W3.out (hrb.out _ (HB.out _ b_W3.out)) (by omega) (b_W3.out.size) ?_
      intro v2 W8 hown7 hgrow7 _
      simp only [Nat.zero_add, List.nil_append] at hown7
      obtain ⟨A2, c2, rfl⟩ := own_shape hown7
      have b_W8 : Hid (Below X.heap.size X W8) := Lib.hid (b_W3.out.grown hgrow7 (b_W3.out.size) (fun q hq => (s4_W3.out.lt q hq).1))
      have v1_W8 := Lib.hid (World.ownsRow.kept v1_W3.out hgrow7 (.inr ne.out))
      have v2_W8 := Lib.hid hown7
      clear hown7 hgrow7
      refine hK _ _ (HS.out _ b_W8.out) (fun _ _ => trivial) ?_
      try simp only [Act.put, Nat.zero_add, List.getElem_toArray, List.getElem_cons_zero, List.getElem_cons_succ, List.setIfInBounds_toArray, List.set_cons_zero, List.set_cons_succ]
      clear hK K
      refine D_one (i := 8) (by kernel_rfl) rfl ?_
      intro K hK
      rw [if_pos (by rfl)]
      go_simp
      refine hK _ _ (HS.out _ b_W8.out) (fun _ _ => trivial) ?_
      try simp only [Act.put, Nat.zero_add, List.getElem_toArray, List.getElem_cons_zero, List.getElem_cons_succ, List.setIfInBounds_toArray, List.set_cons_zero, List.set_cons_succ]
      clear hK K
      have hg8 := HG.out _ b_W8.out
      have t0 : W8.cell? ⟨w.heap.size + 1, 0, none⟩ = some (.slice none 0 0) := by unfold World.cell?; rw [hg8]; rfl
      have t1 : W8.cell? ⟨w.heap.size + 1, 1, none⟩ = some (.slice none 0 0) := by unfold World.cell?; rw [hg8]; rfl
      have t2 : W8.frozen? ⟨w.heap.size + 1, 0, none⟩ = false := by unfold World.frozen?; rw [hg8]; rfl
      have t3 : W8.frozen? ⟨w.heap.size + 1, 1, none⟩ = false := by unfold World.frozen?; rw [hg8]; rfl
      have HS9 := HS.out _ b_W8.out
      refine D_one (i := 9) (by kernel_rfl) rfl ?_
      intro K hK
      rw [if_pos (by rfl)]
      go_simp
      have hne : w.heap.size ≠ w.heap.size + 1 := by omega
      refine hK _ _ ⟨(World.cell?_of_block ((Below.heap_setCell _ _ _ _ hne).trans (Below.heap_setCell _ _ _ _ hne))).trans HS9.1, (World.cell?_of_block ((Below.heap_setCell _ _ _ _ hne).trans (Below.heap_setCell _ _ _ _ hne))).trans HS9.2⟩ (fun _ _ => trivial) ?_
      try simp only [Act.put, Nat.zero_add, List.getElem_toArray, List.getElem_cons_zero, List.getElem_cons_succ, List.setIfInBounds_toArray, List.set_cons_zero, List.set_cons_succ]
      clear hK K t0 t1 t2 t3 HS9
      refine D_done (by kernel_rfl) ?_ _
      replace hg8 := Lib.hid hg8
      go_wp2
      refine bodyPost_ret (res_c rfl _ _ (w.heap.size + 1) 49 #[.slice A1 r.by_.length c1, .slice A2 r.start.length c2] (0, 0) _ rfl (heap_set2 _ _ hg8.out) rfl rfl rfl) rfl ?_
      have hX := hsz.out
      have kp : ∀ (u : Value) (n : Nat) (xs : List Value), W8.ownsRow X.heap.size 3 1 u n xs → ((W8.setCell ⟨w.heap.size + 1, 0, none⟩ (.slice A1 r.by_.length c1)).setCell ⟨w.heap.size + 1, 1, none⟩ (.slice A2 r.start.length c2)).ownsRow w.heap.size 3 1 u n xs := fun u n xs hu => own_base (own_of_block hu (fun g hg => by
        have := (hu.lt g hg).1
        rw [Below.heap_setCell _ _ _ _ (by show g ≠ w.heap.size + 1; omega), Below.heap_setCell _ _ _ _ (by show g ≠ w.heap.size + 1; omega)])) (by omega)
      exact ⟨⟨_, rfl, _, _, rfl, kp _ _ _ v1_W8.out, kp _ _ _ v2_W8.out⟩, ((HB.out _ b_W8.out).setCell (p := ⟨w.heap.size + 1, 0, none⟩) (by simp) _).setCell (p := ⟨w.heap.size + 1, 1, none⟩) (by simp) _⟩
    · intro K hK
      rw [if_pos (by rfl)]
      go_simp
      have b_W2 : Hid (Below X.heap.size X (W1.alloc (.cells #[] 3))) := Lib.hid (b_W1.out.alloc (b_W1.out.size) _)
      have z_W2 : (W1.alloc (.cells #[] 3)).heap.size = W1.heap.size + 1 := World.size_alloc _ _
      have s4_W2 : Hid ((W1.alloc (.cells #[] 3)).ownsRow X.heap.size 3 1 (.slice (some ⟨W1.heap.size, 0, none⟩) 0 0) 0 []) := Lib.hid (World.ownsRow_made W1 #[] 0 (b_W1.out.size) (by unfold maxLen; omega) rfl)
      have s0_W2 := Lib.hid (own_below s0_W1.out ((Below.refl W1.heap.size W1).alloc (Nat.le_refl _) (.cells #[] 3)))
      refine hK _ _ (HS.out _ b_W2.out) (fun _ _ => trivial) ?_
      try simp only [Act.put, Nat.zero_add, List.getElem_toArray, List.getElem_cons_zero, List.getElem_cons_succ, List.setIfInBounds_toArray, List.set_cons_zero, List.set_cons_succ]
      clear hK K
      generalize hg_W2 : W1.alloc (.cells #[] 3) = W2 at b_W2 z_W2 s4_W2 s0_W2 ⊢
      replace hg_W2 := Lib.hid hg_W2
      replace z_W2 := Lib.hid z_W2
      refine D_one (i := 3) (by kernel_rfl) rfl ?_
      intro K hK
      refine step_append_rd (by rfl) _ _ (by rfl) X.heap.size (.slice (some ⟨Wd.heap.size, 0, none⟩) 0 0) a 0 [] r.by_ (by rfl) (by rfl) s0_W2.out (hra.out _ (HB.out _ b_W2.out)) (by omega) (b_W2.out.size) ?_
      intro v1 W3 hown3 hgrow3 hat3
      simp only [Nat.zero_add, List.nil_append] at hown3
      obtain ⟨A1, c1, rfl⟩ := own_shape hown3
      have b_W3 : Hid (Below X.heap.size X W3) := Lib.hid (b_W2.out.grown hgrow3 (b_W2.out.size) (fun q hq => (s0_W2.out.lt q hq).1))
      have s4_W3 := Lib.hid (World.ownsRow.kept s4_W2.out hgrow3 (.inr (by have := z_W1.out; have := z_W2.out; simp [Value.ownBlock]; omega)))
      have ne : Hid ((Value.slice A1 r.by_.length c1).ownBlock ≠ some W1.heap.size) := Lib.hid (fun e => by
        have := z_W1.out
        have := z_W2.out
        rcases hat3 with h | h
        · rw [h] at e; simp [Value.ownBlock] at e; omega
        · rw [h] at e; simp at e; omega)
      have v1_W3 := Lib.hid hown3
      clear hown3 hgrow3 hat3
      refine hK _ _ (HS.out _ b_W3.out) (fun _ _ => trivial) ?_
      try simp only [Act.put, Nat.zero_add, List.getElem_toArray, List.getElem_cons_zero, List.getElem_cons_succ, List.setIfInBounds_toArray, List.set_cons_zero, List.set_cons_succ]
      clear hK K
      refine D_one (i := 7) (by kernel_rfl) rfl ?_
      intro K hK
      refine step_append_rd (by rfl) _ _ (by rfl) X.heap.size (.slice (some ⟨W1.heap.size, 0, none⟩) 0 0) b 0 [] r.start (by rfl) (by rfl) s4_W3.out (hrb.out _ (HB.out _ b_W3.out)) (by omega) (b_W3.out.size) ?_
      intro v2 W8 hown7 hgrow7 _
      simp only [Nat.zero_add, List.nil_append] at hown7
      obtain ⟨A2, c2, rfl⟩ := own_shape hown7
      have b_W8 : Hid (Below X.heap.size X W8) := Lib.hid (b_W3.out.grown hgrow7 (b_W3.out.size) (fun q hq => (s4_W3.out.lt q hq).1))
      have v1_W8 := Lib.hid (World.ownsRow.kept v1_W3.out hgrow7 (.inr ne.out))
      have v2_W8 := Lib.hid hown7
      clear hown7 hgrow7
      refine hK _ _ (HS.out _ b_W8.out) (fun _ _ => trivial) ?_
      try simp only [Act.put, Nat.zero_add, List.getElem_toArray, List.getElem_cons_zero, List.getElem_cons_succ, List.setIfInBounds_toArray, List.set_cons_zero, List.set_cons_succ]
      clear hK K
      refine D_one (i := 8) (by kernel_rfl) rfl ?_
      intro K hK
      rw [if_pos (by rfl)]
      go_simp
      refine hK _ _ (HS.out _ b_W8.out) (fun _ _ => trivial) ?_
      try simp only [Act.put, Nat.zero_add, List.getElem_toArray, List.getElem_cons_zero, List.getElem_cons_succ, List.setIfInBounds_toArray, List.set_cons_zero, List.set_cons_succ]
      clear hK K
      have hg8 := HG.out _ b_W8.out
      have t0 : W8.cell? ⟨w.heap.size + 1, 0, none⟩ = some (.slice none 0 0) := by unfold World.cell?; rw [hg8]; rfl
      have t1 : W8.cell? ⟨w.heap.size + 1, 1, none⟩ = some (.slice none 0 0) := by unfold World.cell?; rw [hg8]; rfl
      have t2 : W8.frozen? ⟨w.heap.size + 1, 0, none⟩ = false := by unfold World.frozen?; rw [hg8]; rfl
      have t3 : W8.frozen? ⟨w.heap.size + 1, 1, none⟩ = false := by unfold World.frozen?; rw [hg8]; rfl
      have HS9 := HS.out _ b_W8.out
      refine D_one (i := 9) (by kernel_rfl) rfl ?_
      intro K hK
      rw [if_pos (by rfl)]
      go_simp
      have hne : w.heap.size ≠ w.heap.size + 1 := by omega
      refine hK _ _ ⟨(World.cell?_of_block ((Below.heap_setCell _ _ _ _ hne).trans (Below.heap_setCell _ _ _ _ hne))).trans HS9.1, (World.cell?_of_block ((Below.heap_setCell _ _ _ _ hne).trans (Below.heap_setCell _ _ _ _ hne))).trans HS9.2⟩ (fun _ _ => trivial) ?_
      try simp only [Act.put, Nat.zero_add, List.getElem_toArray, List.getElem_cons_zero, List.getElem_cons_succ, List.setIfInBounds_toArray, List.set_cons_zero, List.set_cons_succ]
      clear hK K t0 t1 t2 t3 HS9
      refine D_done (by kernel_rfl) ?_ _
      replace hg8 := Lib.hid hg8
      go_wp2
      refine bodyPost_ret (res_c rfl _ _ (w.heap.size + 1) 49 #[.slice A1 r.by_.length c1, .slice A2 r.start.length c2] (0, 0) _ rfl (heap_set2 _ _ hg8.out) rfl rfl rfl) rfl ?_
      have hX := hsz.out
      have kp : ∀ (u : Value) (n : Nat) (xs : List Value), W8.ownsRow X.heap.size 3 1 u n xs → ((W8.setCell ⟨w.heap.size + 1, 0, none⟩ (.slice A1 r.by_.length c1)).setCell ⟨w.heap.size + 1, 1, none⟩ (.slice A2 r.start.length c2)).ownsRow w.heap.size 3 1 u n xs := fun u n xs hu => own_base (own_of_block hu (fun g hg => by
        have := (hu.lt g hg).1
        rw [Below.heap_setCell _ _ _ _ (by show g ≠ w.heap.size + 1; omega), Below.heap_setCell _ _ _ _ (by show g ≠ w.heap.size + 1; omega)])) (by omega)
      exact ⟨⟨_, rfl, _, _, rfl, kp _ _ _ v1_W8.out, kp _ _ _ v2_W8.out⟩, ((HB.out _ b_W8.out).setCell (p := ⟨w.heap.size + 1, 0, none⟩) (by simp) _).setCell (p := ⟨w.heap.size + 1, 1, none⟩) (by simp) _⟩
  · intro K hK
    rw [if_pos (by rfl)]
    go_simp
    have b_W1 : Hid (Below X.heap.size X (Wd.alloc (.cells #[] 3))) := Lib.hid (b_Wd.out.alloc (b_Wd.out.size) _)
    have z_W1 : (Wd.alloc (.cells #[] 3)).heap.size = Wd.heap.size + 1 := World.size_alloc _ _
    have s4_W1 : Hid ((Wd.alloc (.cells #[] 3)).ownsRow X.heap.size 3 1 (.slice (some ⟨Wd.heap.size, 0, none⟩) 0 0) 0 []) := Lib.hid (World.ownsRow_made Wd #[] 0 (b_Wd.out.size) (by unfold maxLen; omega) rfl)
    refine hK _ _ (HS.out _ b_W1.out) (fun _ _ => trivial) ?_
    try simp only [Act.put, Nat.zero_add, List.getElem_toArray, List.getElem_cons_zero, List.getElem_cons_succ, List.setIfInBounds_toArray, List.set_cons_zero, List.set_cons_succ]
    clear hK K
    generalize hg_W1 : Wd.alloc (.cells #[] 3) = W1 at b_W1 z_W1 s4_W1 ⊢
    replace hg_W1 := Lib.hid hg_W1
    replace z_W1 := Lib.hid z_W1
    refine D_one (i := 0) (by kernel_rfl) rfl ?_
    intro K hK
    rw [if_pos (by rfl)]
    go_simp
    have b_W2 : Hid (Below X.heap.size X (W1.alloc (.cells #[] 3))) := Lib.hid (b_W1.out.alloc (b_W1.out.size) _)
    have z_W2 : (W1.alloc (.cells #[] 3)).heap.size = W1.heap.size + 1 := World.size_alloc _ _
    have s0_W2 : Hid ((W1.alloc (.cells #[] 3)).ownsRow X.heap.size 3 1 (.slice (some ⟨W1.heap.size, 0, none⟩) 0 0) 0 []) := Lib.hid (World.ownsRow_made W1 #[] 0 (b_W1.out.size) (by unfold maxLen; omega) rfl)
    have s4_W2 := Lib.hid (own_below s4_W1.out ((Below.refl W1.heap.size W1).alloc (Nat.le_refl _) (.cells #[] 3)))
    refine hK _ _ (HS.out _ b_W2.out) (fun _ _ => trivial) ?_
    try simp only [Act.put, Nat.zero_add, List.getElem_toArray, List.getElem_cons_zero, List.getElem_cons_succ, List.setIfInBounds_toArray, List.set_cons_zero, List.set_cons_succ]
    clear hK K
    generalize hg_W2 : W1.alloc (.cells #[] 3) = W2 at b_W2 z_W2 s0_W2 s4_W2 ⊢
    replace hg_W2 := Lib.hid hg_W2
    replace z_W2 := Lib.hid z_W2
    refine D_one (i := 3) (by kernel_rfl) rfl ?_
    intro K hK
    refine step_append_rd (by rfl) _ _ (by rfl) X.heap.size (.slice (some ⟨W1.heap.size, 0, none⟩) 0 0) a 0 [] r.by_ (by rfl) (by rfl) s0_W2.out (hra.out _ (HB.out _ b_W2.out)) (by omega) (b_W2.out.size) ?_
    intro v1 W3 hown3 hgrow3 hat3
    simp only [Nat.zero_add, List.nil_append] at hown3
    obtain ⟨A1, c1, rfl⟩ := own_shape hown3
    have b_W3 : Hid (Below X.heap.size X W3) := Lib.hid (b_W2.out.grown hgrow3 (b_W2.out.size) (fun q hq => (s0_W2.out.lt q hq).1))
    have s4_W3 := Lib.hid (World.ownsRow.kept s4_W2.out hgrow3 (.inr (by have := z_W1.out; have := z_W2.out; simp [Value.ownBlock]; omega)))
    have ne : Hid ((Value.slice A1 r.by_.length c1).ownBlock ≠ some Wd.heap.size) := Lib.hid (fun e => by
      have := z_W1.out
      have := z_W2.out
      rcases hat3 with h | h
      · rw [h] at e; simp [Value.ownBlock] at e; omega
      · rw [h] at e; simp at e; omega)
    have v1_W3 := Lib.hid hown3
    clear hown3 hgrow3 hat3
    refine hK _ _ (HS.out _ b_W3.out) (fun _ _ => trivial) ?_
    try simp only [Act.put, Nat.zero_add, List.getElem_toArray, List.getElem_cons_zero, List.getElem_cons_succ, List.setIfInBounds_toArray, List.set_cons_zero, List.set_cons_succ]
    clear hK K
    refine D_one (i := 7) (by kernel_rfl) rfl ?_
    intro K hK
    refine step_append_rd (by rfl) _ _ (by rfl) X.heap.size (.slice (some ⟨Wd.heap.size, 0, none⟩) 0 0) b 0 [] r.start (by rfl) (by rfl) s4_W3.out (hrb.out _ (HB.out _ b_W3.out)) (by omega) (b_W3.out.size) ?_
    intro v2 W8 hown7 hgrow7 _
    simp only [Nat.zero_add, List.nil_append] at hown7
    obtain ⟨A2, c2, rfl⟩ := own_shape hown7
    have b_W8 : Hid (Below X.heap.size X W8) := Lib.hid (b_W3.out.grown hgrow7 (b_W3.out.size) (fun q hq => (s4_W3.out.lt q hq).1))
    have v1_W8 := Lib.hid (World.ownsRow.kept v1_W3.out hgrow7 (.inr ne.out))
    have v2_W8 := Lib.hid hown7
    clear hown7 hgrow7
    refine hK _ _ (HS.out _ b_W8.out) (fun _ _ => trivial) ?_
    try simp only [Act.put, Nat.zero_add, List.getElem_toArray, List.getElem_cons_zero, List.getElem_cons_succ, List.setIfInBounds_toArray, List.set_cons_zero, List.set_cons_succ]
    clear hK K
    refine D_one (i := 8) (by kernel_rfl) rfl ?_
    intro K hK
    rw [if_pos (by rfl)]
    go_simp
    refine hK _ _ (HS.out _ b_W8.out) (fun _ _ => trivial) ?_
    try simp only [Act.put, Nat.zero_add, List.getElem_toArray, List.getElem_cons_zero, List.getElem_cons_succ, List.setIfInBounds_toArray, List.set_cons_zero, List.set_cons_succ]
    clear hK K
    have hg8 := HG.out _ b_W8.out
    have t0 : W8.cell? ⟨w.heap.size + 1, 0, none⟩ = some (.slice none 0 0) := by unfold World.cell?; rw [hg8]; rfl
    have t1 : W8.cell? ⟨w.heap.size + 1, 1, none⟩ = some (.slice none 0 0) := by unfold World.cell?; rw [hg8]; rfl
    have t2 : W8.frozen? ⟨w.heap.size + 1, 0, none⟩ = false := by unfold World.frozen?; rw [hg8]; rfl
    have t3 : W8.frozen? ⟨w.heap.size + 1, 1, none⟩ = false := by unfold World.frozen?; rw [hg8]; rfl
    have HS9 := HS.out _ b_W8.out
    refine D_one (i := 9) (by kernel_rfl) rfl ?_
    intro K hK
    rw [if_pos (by rfl)]
    go_simp
    have hne : w.heap.size ≠ w.heap.size + 1 := by omega
    refine hK _ _ ⟨(World.cell?_of_block ((Below.heap_setCell _ _ _ _ hne).trans (Below.heap_setCell _ _ _ _ hne))).trans HS9.1, (World.cell?_of_block ((Below.heap_setCell _ _ _ _ hne).trans (Below.heap_setCell _ _ _ _ hne))).trans HS9.2⟩ (fun _ _ => trivial) ?_
    try simp only [Act.put, Nat.zero_add, List.getElem_toArray, List.getElem_cons_zero, List.getElem_cons_succ, List.setIfInBounds_toArray, List.set_cons_zero, List.set_cons_succ]
    clear hK K t0 t1 t2 t3 HS9
    refine D_done (by kernel_rfl) ?_ _
    replace hg8 := Lib.hid hg8
    go_wp2
    refine bodyPost_ret (res_c rfl _ _ (w.heap.size + 1) 49 #[.slice A1 r.by_.length c1, .slice A2 r.start.length c2] (0, 0) _ rfl (heap_set2 _ _ hg8.out) rfl rfl rfl) rfl ?_
    have hX := hsz.out
    have kp : ∀ (u : Value) (n : Nat) (xs : List Value), W8.ownsRow X.heap.size 3 1 u n xs → ((W8.setCell ⟨w.heap.size + 1, 0, none⟩ (.slice A1 r.by_.length c1)).setCell ⟨w.heap.size + 1, 1, none⟩ (.slice A2 r.start.length c2)).ownsRow w.heap.size 3 1 u n xs := fun u n xs hu => own_base (own_of_block hu (fun g hg => by
      have := (hu.lt g hg).1
      rw [Below.heap_setCell _ _ _ _ (by show g ≠ w.heap.size + 1; omega), Below.heap_setCell _ _ _ _ (by show g ≠ w.heap.size + 1; omega)])) (by omega)
    exact ⟨⟨_, rfl, _, _, rfl, kp _ _ _ v1_W8.out, kp _ _ _ v2_W8.out⟩, ((HB.out _ b_W8.out).setCell (p := ⟨w.heap.size + 1, 0, none⟩) (by simp) _).setCell (p := ⟨w.heap.size + 1, 1, none⟩) (by simp) _⟩
end Go.Proofs.YtfljkcmijnhgkaaDoor

namespace Go.Proofs.YtfljkcmijnhgkaaDoor
open Go.RowKit Go.Shelf
set_option linter.unusedSimpArgs false

def setFrom (r : List Int) (o : Nat) : List Int → List Int
  | [] => r
  | y :: ys => setFrom (r.set o y) (o + 1) ys
theorem setFrom_get (ys : List Int) : ∀ (r : List Int) (o j : Nat), o + ys.length ≤ r.length → (setFrom r o ys)[j]? = if o ≤ j ∧ j < o + ys.length then ys[j - o]? else r[j]? := by
  induction ys with
  | nil => intro r o j _; rw [setFrom, if_neg (by simp)]
  | cons y ys ih =>
    intro r o j h
    rw [setFrom, ih _ _ _ (by simp at h ⊢; omega)]
    simp only [List.length_cons] at h ⊢
    by_cases h1 : o = j
    · subst h1
      rw [if_neg (by omega), if_pos (by omega), List.getElem?_set_self (by omega), Nat.sub_self]; rfl
    · by_cases h2 : o + 1 ≤ j ∧ j < o + 1 + ys.length
      · rw [if_pos h2, if_pos (by omega), show j - o = (j - (o + 1)) + 1 by omega]; rfl
      · rw [if_neg h2, if_neg (by omega), List.getElem?_set_ne h1]
theorem setFrom_all {r ys : List Int} (h : r.length = ys.length) : setFrom r 0 ys = ys := by
  apply List.ext_getElem?
  intro j
  rw [setFrom_get _ _ _ _ (by omega)]
  by_cases hj : j < ys.length
  · rw [if_pos (by omega)]; rfl
  · rw [if_neg (by omega), List.getElem?_eq_none (by omega), List.getElem?_eq_none (by omega)]
/-- A whole list is stored into row i. -/
theorem OwnMv.puts {base g c n i : Nat} {v : Value} {vs : List Value} (hu : vs[i]? = some (.slice (some ⟨g, 0, none⟩) n c)) : ∀ (ys : List Int) (w : World) (rs : List (List Int)) (r : List Int) (o : Nat), OwnMv w base v rs vs → rs[i]? = some r →
    OwnMv (w.setCells g o (ints ys)) base v (rs.set i (setFrom r o ys)) vs ∧ KeptBut vs w (w.setCells g o (ints ys))
  | [], w, rs, r, o, h, hr => by
    rw [setFrom, list_set_same hr]
    exact ⟨h, KeptBut.refl _ _⟩
  | y :: ys, w, rs, r, o, h, hr => by
    obtain ⟨h1, k1⟩ := h.put hr hu (k := o) y
    have hlt := (List.getElem?_eq_some_iff.1 hr).1
    obtain ⟨h2, k2⟩ := OwnMv.puts hu ys _ _ (r.set o y) (o + 1) h1 (List.getElem?_set_self hlt)
    rw [list_set_set] at h2
    exact ⟨h2, k1.trans k2⟩
/-- The first k rows of the companion's matrix. -/
def stP (bs : List Int) (k : Nat) (a b : Nat) : Int := if a = 0 then bs.getD b 0 else if b + 1 = a ∧ a < k then 1 else 0
theorem stP_end (bs : List Int) : mat (stP bs bs.length) bs.length bs.length = compM bs := mat_congr fun a b ha _ => by
  unfold stP compE
  by_cases h : a = 0
  · rw [if_pos h, if_pos h]
  · rw [if_neg h, if_neg h]
    by_cases h2 : b + 1 = a
    · rw [if_pos ⟨h2, ha⟩, if_pos h2]
    · rw [if_neg (fun h => h2 h.1), if_neg h2]
theorem stP_one (bs : List Int) : (mat (fun _ _ => 0) bs.length bs.length).set 0 bs = mat (stP bs 1) bs.length bs.length := by
  apply List.ext_getElem (by simp [mat])
  intro a h1 h2
  have ha : a < bs.length := by simpa [mat] using h2
  rw [List.getElem_set]
  by_cases e : 0 = a
  · subst e
    rw [if_pos rfl]
    simp only [mat, List.getElem_map, List.getElem_range]
    apply List.ext_getElem (by simp)
    intro b h3 h4
    simp [stP, List.getD_eq_getElem?_getD, h3]
  · rw [if_neg e]
    simp only [mat, List.getElem_map, List.getElem_range]
    apply List.map_congr_left; intro b _
    rw [stP, if_neg (by omega), if_neg (by omega)]
set_option maxRecDepth 100000 in
set_option maxHeartbeats 3200000 in
theorem steps_any (r : Rule) (v : Value) (w : World) (h : RdR w v r) (h0 : 0 < r.by_.length) (h12 : r.by_.length ≤ 900) :
    Calls Tryd.prog 136 #[v] w fun e w' => (∃ u, e = .returned u ∧ OwnM w' w.heap.size u (compM r.by_)) ∧ Below w.heap.size w w' := by
  obtain ⟨a, b, rfl, ra, rb⟩ := h
  obtain ⟨A, c, rfl, h1, h2, h3⟩ := ra.open_
  obtain ⟨bA, oA, rfl, -⟩ := h3 0 h0
  have hbx : Below w.heap.size w (w.alloc (.cells #[.slice (some ⟨bA, oA, none⟩) r.by_.length c, b] 49)) := (Below.refl _ _).alloc (Nat.le_refl _) _
  have hg : (w.alloc (.cells #[.slice (some ⟨bA, oA, none⟩) r.by_.length c, b] 49)).heap[w.heap.size]? = some (.cells #[.slice (some ⟨bA, oA, none⟩) r.by_.length c, b] 49 (0, 0)) := heap_alloc_new _ _
  have hsz : (w.alloc (.cells #[.slice (some ⟨bA, oA, none⟩) r.by_.length c, b] 49)).heap.size = w.heap.size + 1 := by simp
  have hc0 : (w.alloc (.cells #[.slice (some ⟨bA, oA, none⟩) r.by_.length c, b] 49)).cell? ⟨w.heap.size, 0, none⟩ = some (.slice (some ⟨bA, oA, none⟩) r.by_.length c) := by unfold World.cell?; rw [hg]; rfl
  have hsrc : Hid (∀ W, Below w.heap.size w W → ∀ j u, (ints r.by_)[j]? = some u → W.cell? ((⟨bA, oA, none⟩ : Addr).add j) = some u) := Lib.hid (fun W hW j u hj => by
    have hj2 := (List.getElem?_eq_some_iff.1 hj).1
    rw [ints_len] at hj2
    obtain ⟨b1, o1, e1, hc1⟩ := h3 j hj2
    simp only [Option.some.injEq, Addr.mk.injEq, and_true] at e1
    obtain ⟨rfl, rfl⟩ := e1
    rw [add_off, (hW.cell (World.block_lt_of_cell? w _ hc1)).trans hc1]
    rw [ints_get, List.getElem?_eq_getElem hj2] at hj
    rw [List.getD_eq_getElem?_getD, List.getElem?_eq_getElem hj2]
    exact hj)
  have hse := Lib.hid (stP_end r.by_)
  have hso := Lib.hid (stP_one r.by_)
  have hz := Lib.hid (fun W => zeros_any r.by_.length r.by_.length W (by omega) (by omega))
  clear ra rb hg h3
  generalize hN : r.by_.length = N at *
  replace hN := Lib.hid hN
  replace hbx := Lib.hid hbx
  go_enter Tryd.func136, Tryd.ntmps136
  go_wp2_with fail
  generalize w.alloc (.cells #[.slice (some ⟨bA, oA, none⟩) N c, b] 49) = X at hbx hsz hc0 ⊢
  refine (hz.out X).mono ?_; rintro e W ⟨⟨u, rfl, ho⟩, hB0⟩
  obtain ⟨vs, hv⟩ := ho.v
  clear hz ho
  have hvl : vs.length = N := by have := hv.len; rwa [mat_len] at this
  have hc1 := (hB0.cell (World.block_lt_of_cell? X _ hc0)).trans hc0
  have hr0 := mat_get? (fun _ _ => 0) (n := N) (m := N) (i := 0) h0
  have hu0 : vs[0]? = some vs[0] := List.getElem?_eq_getElem (by omega)
  obtain ⟨g, cg, rfl, _, hglt, hcg, hfg⟩ := hv.at_ hr0 hu0
  obtain ⟨g0, c1, e0, -, -, -, -⟩ := hv.num hr0 hu0 (k := 0) (by simp; exact h0)
  rw [show ((List.range N).map fun _ => (0 : Int)).length = N by simp] at e0
  rw [mat_len] at *
  rw [e0] at hcg hu0
  clear e0
  have hcells : ∀ j, j < N → (W.drew.cell? ⟨g0, 0 + j, none⟩).isSome = true ∧ W.drew.frozen? ⟨g0, 0 + j, none⟩ = false := fun j hj => by
    obtain ⟨g4, c4, e4, -, -, hc4, hf4⟩ := hv.num hr0 hu0 (k := j) (by simp; exact hj)
    simp only [Value.slice.injEq, Option.some.injEq, Addr.mk.injEq, and_true] at e4
    obtain ⟨rfl, -, -⟩ := e4
    rw [Nat.zero_add]
    exact ⟨by rw [show W.drew.cell? _ = _ from hc4]; rfl, hf4⟩
  have hlen : (ints r.by_).length = N := by rw [ints_len, hN.out]
  have hBd : Below w.heap.size w W.drew := (Below.then_ hbx.out hB0).drew
  have hcp := fun ty => run_copy_cells (P := Tryd.prog) W.drew 23 23 ty 3 g0 0 N c1 ⟨bA, oA, none⟩ N c (ints r.by_) Tryd.underlying23 (by kernel_rfl) (by rw [hlen]; simp) (hsrc.out _ hBd) (fun j hj => (hcells j (by omega)).1) (fun j hj => (hcells j (by omega)).2) (fun u hu => by obtain ⟨x, _, rfl⟩ := List.mem_map.1 hu; rfl)
  obtain ⟨hP, hK⟩ := OwnMv.puts hu0 r.by_ W.drew _ _ 0 (hv.kept ((Below.refl W.heap.size W).drew)) hr0
  rw [setFrom_all (by simp [hN.out]), hso.out] at hP
  rw [hlen] at hcp
  have hge := Lib.hid hv.ge
  replace hP := Lib.hid hP
  replace hK := Lib.hid ((KeptBut.of_below (vs := vs) ((Below.refl W.heap.size W).drew)).trans hK)
  replace hsz := Lib.hid hsz
  clear hcells hlen hBd hr0 hu0 hv
  go_wp2
  go_still_tail 5, (by kernel_rfl)
  change wpList _ _ _ _ _ W.drew
  go_wp2
  generalize W.drew.setCells g0 0 (ints r.by_) = W1 at hP hK ⊢
  go_loopw [5] (fun ii wr => ∃ k : Nat, 1 ≤ k ∧ k ≤ N ∧ ii = .int .i64 k ∧ Hid (KeptBut vs W wr) ∧ Hid (OwnMv wr X.heap.size (.slice (some ⟨g, 0, none⟩) N cg) (mat (stP r.by_ k) N N) vs)) (fun ii _ => N - (intOf ii).toNat)
  case atStart => exact ⟨1, Nat.le_refl _, h0, rfl, hK, hP⟩
  case round =>
    obtain ⟨k, hk1, hk, rfl, hK, hM⟩ := hrel
    rename World => wr
    by_cases hlt : k < N
    · obtain ⟨p, rfl⟩ : ∃ p, k = p + 1 := ⟨k - 1, by omega⟩
      have hr := mat_get? (stP r.by_ (p + 1)) (n := N) (m := N) hlt
      have hu : vs[p + 1]? = some vs[p + 1] := List.getElem?_eq_getElem (by omega)
      obtain ⟨g', c', e', _, _, hc, hf⟩ := hM.out.at_ hr hu
      simp only [Value.slice.injEq, Option.some.injEq, Addr.mk.injEq, and_true] at e'
      obtain ⟨rfl, -, -⟩ := e'
      obtain ⟨g1, c3, e1, _, _, hc1', hf1⟩ := hM.out.num hr hu (k := p) (by simp; omega)
      rw [show ((List.range N).map (stP r.by_ (p + 1) (p + 1))).length = N by simp] at e1
      rw [e1] at hc hu
      have hput := hM.out.put hr hu (k := p) 1
      rw [mat_put (stP r.by_ (p + 1)) (stP r.by_ (p + 1 + 1)) 1 (fun a b _ _ => by
        unfold stP
        by_cases e : a = p + 1 ∧ b = p
        · rw [if_pos e, if_neg (by omega), if_pos (by omega)]
        · rw [if_neg e]
          by_cases e0 : a = 0
          · rw [if_pos e0, if_pos e0]
          · rw [if_neg e0, if_neg e0]
            by_cases e2 : b + 1 = a ∧ a < p + 1
            · rw [if_pos e2, if_pos (by omega)]
            · rw [if_neg e2, if_neg (by omega)])] at hput
      have hput2 := Lib.hid hput.1
      have hK2 := Lib.hid (hK.out.trans hput.2)
      clear hput hr hu hM e1
      generalize ((List.range N).map (stP r.by_ (p + 1) (p + 1))).getD p 0 = x at hc1'
      have k1 : ((p + 1 : Nat) : Int) < (N : Int) := by omega
      have p1 : (p : Int) < (N : Int) := by omega
      have p0 : (0 : Int) ≤ (p : Int) := by omega
      have w1 : ((p + 1 : Nat) : Int) - 1 = (p : Int) := by omega
      clear hvl
      go_wp2
      go_roundw
      case rel => exact ⟨p + 1 + 1, by omega, by omega, by go_num, hK2, hput2⟩
      case measure => simp [intOf] <;> omega
    · obtain rfl : N = k := by omega
      go_wp2
      go_ret
      have hs := hsz.out
      have hB0s := hB0.size
      have hMm := hM.out.m
      rw [hse.out] at hMm
      exact ⟨⟨_, rfl, hMm.base (by omega)⟩, hbx.out.trans ((hB0.trans (hK.out.below hB0s (fun u hu q hq => (hge.out u hu q hq).1))).mono (by omega))⟩
end Go.Proofs.YtfljkcmijnhgkaaDoor

namespace Go.Proofs.YtfljkcmijnhgkaaDoor
open Go.RowKit Go.Shelf
set_option linter.unusedSimpArgs false

/-- A term of the window, so many products taken. -/
def wnS (F : List (List Int)) (st : List Int) (m i k : Nat) : Int := psum (fun j => gM F i j * st.getD (m - 1 - j) 0 % 65521) k % 65521
def wnE (F : List (List Int)) (st : List Int) (m i k a : Nat) : Int := if a < i then wnS F st m a m else if a = i then wnS F st m a k else 0
def wnL (F : List (List Int)) (st : List Int) (m i k : Nat) : List Int := (List.range m).map fun x => wnE F st m i k (m - 1 - x)
theorem wnL_len (F : List (List Int)) (st : List Int) (m i k : Nat) : (wnL F st m i k).length = m := by simp [wnL]
theorem wnS_step (F : List (List Int)) (st : List Int) (m i k : Nat) : wnS F st m i (k + 1) = (wnS F st m i k + gM F i k * st.getD (m - 1 - k) 0) % 65521 := by
  unfold wnS
  rw [psum]
  generalize psum _ k = S
  generalize gM F i k * st.getD (m - 1 - k) 0 = t
  omega
theorem wnL_zero (F : List (List Int)) (st : List Int) (m : Nat) : wnL F st m 0 0 = List.replicate m 0 := by
  apply List.ext_getElem (by simp [wnL])
  intro x h1 h2
  simp only [wnL, List.getElem_map, List.getElem_range, List.getElem_replicate, wnE]
  rw [if_neg (by omega)]
  split
  · simp [wnS, psum]
  · rfl
theorem wnL_row (F : List (List Int)) (st : List Int) (m i : Nat) : wnL F st m i m = wnL F st m (i + 1) 0 := by
  apply List.map_congr_left; intro x _
  unfold wnE
  by_cases h : m - 1 - x < i
  · rw [if_pos h, if_pos (by omega)]
  · rw [if_neg h]
    by_cases h2 : m - 1 - x = i
    · rw [if_pos h2, if_pos (by omega)]
    · rw [if_neg h2, if_neg (by omega)]
      split
      · simp [wnS, psum]
      · rfl
theorem wnL_get (F : List (List Int)) (st : List Int) {m i k p : Nat} (hp : p = m - 1 - i) (hi : i < m) : (wnL F st m i k).getD p 0 = wnS F st m i k := by
  rw [List.getD_eq_getElem?_getD, wnL, List.getElem?_map, List.getElem?_range (by omega)]
  show wnE F st m i k (m - 1 - p) = _
  rw [wnE, if_neg (by omega), if_pos (by omega), show m - 1 - p = i by omega]
theorem wnL_set (F : List (List Int)) (st : List Int) {m i k p : Nat} (hp : p = m - 1 - i) (hi : i < m) : (wnL F st m i k).set p (wnS F st m i (k + 1)) = wnL F st m i (k + 1) := by
  apply List.ext_getElem (by simp [wnL])
  intro x h1 h2
  have hx : x < m := by simpa [wnL] using h2
  rw [List.getElem_set]
  simp only [wnL, List.getElem_map, List.getElem_range, wnE]
  by_cases e : p = x
  · rw [if_pos e, if_neg (by omega), if_pos (by omega), show m - 1 - x = i by omega]
  · rw [if_neg e]
    by_cases h : m - 1 - x < i
    · rw [if_pos h, if_pos h]
    · rw [if_neg h, if_neg h, if_neg (by omega), if_neg (by omega)]
theorem wnL_end {F : List (List Int)} {st : List Int} {m : Nat} (hF : okM F m m) (hst : st.length = m) (hm : 0 < m) : wnL F st m m 0 = ((prodM F (colM st)).map fun u => u.getD 0 0).reverse := by
  have hC : okM (colM st) m 1 → True := fun _ => trivial
  clear hC
  have hl0 : len0 (colM st) = 1 := by
    unfold len0 colM
    rw [mat_getD _ (by omega)]; simp
  have hP : prodM F (colM st) = mat (prodE F (colM st)) m 1 := by rw [prodM, hF.1, hl0]
  rw [hP]
  apply List.ext_getElem (by simp [wnL, mat])
  intro x h1 h2
  have hx : x < m := by simpa [wnL] using h1
  rw [List.getElem_reverse]
  simp only [wnL, mat, List.getElem_map, List.getElem_range, List.length_map, List.length_range, wnE]
  rw [if_pos (by omega)]
  simp only [List.range_one, List.map_cons, List.map_nil, List.getD_cons_zero]
  rw [prodE, hF.row (by omega), wnS]
  congr 1
  exact psum_congr (fun j hj => by
    rw [show gM (colM st) j 0 = st.getD (m - 1 - j) 0 from by
      unfold colM
      rw [gM_mat _ (by omega) (by omega), colE, hst]])
set_option maxRecDepth 100000 in
set_option maxHeartbeats 6400000 in
theorem window_any (r : Rule) (n : Nat) (v : Value) (w : World) (h : RdR w v r) (hr : rightR r = 0) (hn : n ≤ 9223372036854775807) :
    Calls Tryd.prog 135 #[v, .int .i64 n] w fun e w' => (∃ u, e = .returned u ∧ OwnI w' w.heap.size u (fromM r n)) ∧ Below w.heap.size w w' := by
  have hR := Lib.hid h
  obtain ⟨a, b, rfl, ra, rb⟩ := h
  obtain ⟨hl12, hll, hbb, hbs⟩ := rightR_ok hr
  obtain ⟨A, c, rfl, h1, h2, -⟩ := ra.open_
  obtain ⟨B, d, rfl, g1, g2, g3⟩ := rb.open_
  have hbx : Below w.heap.size w (w.alloc (.cells #[.slice A r.by_.length c, .slice B r.start.length d] 49)) := (Below.refl _ _).alloc (Nat.le_refl _) _
  have hg : (w.alloc (.cells #[.slice A r.by_.length c, .slice B r.start.length d] 49)).heap[w.heap.size]? = some (.cells #[.slice A r.by_.length c, .slice B r.start.length d] 49 (0, 0)) := heap_alloc_new _ _
  have hsz : (w.alloc (.cells #[.slice A r.by_.length c, .slice B r.start.length d] 49)).heap.size = w.heap.size + 1 := by simp
  have hc0 : (w.alloc (.cells #[.slice A r.by_.length c, .slice B r.start.length d] 49)).cell? ⟨w.heap.size, 0, none⟩ = some (.slice A r.by_.length c) := by unfold World.cell?; rw [hg]; rfl
  have hc1 : (w.alloc (.cells #[.slice A r.by_.length c, .slice B r.start.length d] 49)).cell? ⟨w.heap.size, 1, none⟩ = some (.slice B r.start.length d) := by unfold World.cell?; rw [hg]; rfl
  by_cases hm : r.by_.length = 0
  · have hres : Hid (fromM r n = []) := Lib.hid (by rw [fromM, if_pos hm])
    clear ra rb hg g3 hR hll hl12 hbb hbs hr
    generalize r.by_.length = N at *
    generalize r.start.length = M at *
    subst hm
    go_enter Tryd.func135, Tryd.ntmps135
    go_wp2
    go_ret
    exact ⟨⟨_, rfl, by rw [hres.out]; exact OwnI_nil _ _⟩, hbx⟩
  · have hokF := Lib.hid (okM_powMat (by omega) (okM_comp hbb) n)
    have hend := Lib.hid (wnL_end hokF.out hll (by omega))
    have hres : Hid (fromM r n = ((prodM (powMat (compM r.by_) n) (colM r.start)).map fun u => u.getD 0 0).reverse) := Lib.hid (by rw [fromM, if_neg hm])
    have hst := Lib.hid (fun W (hW : Below w.heap.size w W) => steps_any r _ W (hR.out.below hW (Nat.le_refl _)) (by omega) (by omega))
    have hpw := Lib.hid (fun u W hu => refpower_any (compM r.by_) r.by_.length u n W (okM_comp hbb) (by omega) (by omega) hn hu)
    have hsb : Hid (∀ j, 0 ≤ r.start.getD j 0 ∧ r.start.getD j 0 < 65521) := Lib.hid (fun k => by
      by_cases hk : k < r.start.length
      · rw [List.getD_eq_getElem?_getD, List.getElem?_eq_getElem hk]; exact hbs _ (List.getElem_mem hk)
      · rw [List.getD_eq_getElem?_getD, List.getElem?_eq_none (by omega)]; decide)
    have hokC := Lib.hid (okM_comp hbb)
    have hmk := run_make_row' (P := Tryd.prog) 23 3 _ _ Tryd.underlying23 infoI rfl .i64 .i64 r.by_.length (by omega) (by omega)
    rw [hll] at *
    replace g3 := Lib.hid g3
    replace hbx := Lib.hid hbx
    clear ra rb hg hbb hbs hR
    generalize hM : r.by_.length = m at *
    replace hM := Lib.hid hM
    have hne : ((m : Int) == 0) = false := by rw [beq_eq_false_iff_ne]; omega
    generalize hF : powMat (compM r.by_) n = F at *
    replace hF := Lib.hid hF
    go_enter Tryd.func135, Tryd.ntmps135
    go_wp2_with fail
    generalize w.alloc (.cells #[.slice A m c, .slice B m d] 49) = X at hbx hsz hc0 hc1 ⊢
    refine (hst.out X hbx.out).mono ?_; rintro e W1 ⟨⟨u1, rfl, o1⟩, hB1⟩
    have rd1 := Lib.hid (o1.rdOk hokC.out (by omega) (by omega))
    clear o1 hst
    go_wp2_with fail
    refine (hpw.out u1 W1 rd1.out).mono ?_; rintro e W2 ⟨⟨u2, rfl, o2⟩, hB2⟩
    have rd2 := Lib.hid (o2.rdOk hokF.out (by omega) (by omega))
    clear o2 hpw rd1
    have hBX2 := Lib.hid (Below.then_ hB1 hB2)
    have hc1' := (hBX2.out.cell (World.block_lt_of_cell? X _ hc1)).trans hc1
    clear hB1 hB2 hc0
    have h0 := Lib.hid (OwnI_made W2 W2.heap.size m (Nat.le_refl _) (by unfold maxLen; omega))
    have hB0 : Hid (Below W2.heap.size W2 (W2.alloc (.cells (madeCells #[.int .i64 0] m) 3))) := Lib.hid ((Below.refl _ _).alloc (Nat.le_refl _) _)
    obtain ⟨A2, c2, rfl, -, -, f3⟩ := rd2.out.open_
    rw [hokF.out.1] at f3 ⊢
    replace f3 := Lib.hid f3
    clear rd2
    go_wp2
    generalize W2.alloc (.cells (madeCells #[.int .i64 0] m) 3) = w1 at h0 hB0 ⊢
    have hBW2 := Lib.hid (Below.then_ hbx.out hBX2.out)
    have hszw := hBX2.out.size
    clear hbx hmk
    have m1' : IntKind.i64.wrap ((m : Int) - 1) = (m : Int) - 1 := IntWalk.i64_in _ ⟨by omega, by omega⟩
    go_loopw [8, 9] (fun ii _ wr => ∃ i : Nat, i ≤ m ∧ ii = .int .i64 i ∧ Hid (Below W2.heap.size W2 wr) ∧ Hid (OwnI wr W2.heap.size (.slice (some ⟨W2.heap.size, 0, none⟩) m m) (wnL F r.start m i 0))) (fun ii _ _ => m - (intOf ii).toNat)
    case atStart => exact ⟨0, Nat.zero_le _, rfl, hB0, Lib.hid (by rw [wnL_zero]; exact h0.out)⟩
    case round =>
      obtain ⟨i, hi, rfl, hB, hO⟩ := hrel
      rename World => wr
      by_cases him : i < m
      · have i1 : (i : Int) < (m : Int) := by omega
        have i0 : (0 : Int) ≤ (i : Int) := by omega
        obtain ⟨p, hp⟩ : ∃ p, p = m - 1 - i := ⟨_, rfl⟩
        have hpi : (m : Int) - 1 - (i : Int) = (p : Int) := by omega
        have w2 : IntKind.i64.wrap ((m : Int) - 1 - (i : Int)) = (p : Int) := by rw [IntWalk.i64_in _ ⟨by omega, by omega⟩]; exact hpi
        replace hpi := Lib.hid hpi
        have hp1 : (p : Int) < (m : Int) := by omega
        have hp0 : (0 : Int) ≤ (p : Int) := by omega
        have hpm : p < m := by omega
        replace hp := Lib.hid hp
        go_wp2
        obtain ⟨wo, rfl⟩ : ∃ wo : World, wo = wr := ⟨_, rfl⟩
        go_loopw [9] (fun ii wr => ∃ k : Nat, k ≤ m ∧ ii = .int .i64 k ∧ Hid (Below W2.heap.size W2 wr) ∧ Hid (OwnI wr W2.heap.size (.slice (some ⟨W2.heap.size, 0, none⟩) m m) (wnL F r.start m i k))) (fun ii _ => m - (intOf ii).toNat)
        case atStart => exact ⟨0, Nat.zero_le _, rfl, hB, hO⟩
        case round =>
          obtain ⟨k, hk, rfl, hB, hO⟩ := hrel
          rename World => wr2
          by_cases hkm : k < m
          · obtain ⟨bf, offf, uf, rfl, hcf, huf⟩ := f3.out i him
            obtain ⟨Af, cf, rfl, -, -, ef⟩ := huf.open_
            rw [hokF.out.row him] at ef hcf
            obtain ⟨bf2, offf2, rfl, hcf2⟩ := ef k hkm
            change _ = some (Value.int .i64 (gM F i k)) at hcf2
            obtain ⟨q, hq⟩ : ∃ q, q = m - 1 - k := ⟨_, rfl⟩
            obtain ⟨bs, offs, rfl, hcs⟩ := g3.out q (by omega)
            have hqi : (m : Int) - 1 - (k : Int) = (q : Int) := by omega
            have w3 : IntKind.i64.wrap ((m : Int) - 1 - (k : Int)) = (q : Int) := by rw [IntWalk.i64_in _ ⟨by omega, by omega⟩]; exact hqi
            replace hqi := Lib.hid hqi
            have hcs2 := ((hBW2.out.trans (hB.out.mono (by omega))).cell (World.block_lt_of_cell? w _ hcs)).trans hcs
            have hcf' := (hB.out.cell (World.block_lt_of_cell? W2 _ hcf)).trans hcf
            have hcf2' := (hB.out.cell (World.block_lt_of_cell? W2 _ hcf2)).trans hcf2
            have hc1'' := (hB.out.cell (World.block_lt_of_cell? W2 _ hc1')).trans hc1'
            obtain ⟨hxc, hxf⟩ := hO.out.num (k := p) (by rw [wnL_len]; exact hpm)
            rw [wnL_get F r.start hp.out him] at hxc
            have hput := (hO.out.below ((Below.refl wr2.heap.size wr2).drew)).put p (wnS F r.start m i (k + 1))
            rw [wnL_set F r.start hp.out him, wnS_step, ← hq] at hput
            have hS : 0 ≤ wnS F r.start m i k ∧ wnS F r.start m i k < 65521 := ⟨Int.emod_nonneg _ (by decide), Int.emod_lt_of_pos _ (by decide)⟩
            have n1 := hokF.out.num i k
            have n2 := hsb.out q
            have ⟨m1, m2⟩ := mul_bd n1.1 n1.2 n2.1 n2.2
            have hB3 : Hid (Below W2.heap.size W2 (wr2.drew.setCell ⟨W2.heap.size, p, none⟩ (.int .i64 ((wnS F r.start m i k + gM F i k * r.start.getD q 0) % 65521)))) := Lib.hid (hB.out.drew.setCell (Nat.le_refl _) _)
            replace hput := Lib.hid hput
            have hq1 : (q : Int) < (m : Int) := by omega
            have hq0 : (0 : Int) ≤ (q : Int) := by omega
            replace hq := Lib.hid hq
            clear hcs hcf hcf2 ef huf hO hB
            generalize wnS F r.start m i k = S at *
            generalize gM F i k = x at *
            generalize r.start.getD q 0 = y at *
            have w4 : IntKind.i64.wrap (x * y) = x * y := IntWalk.i64_in _ ⟨by omega, by omega⟩
            have w5 : IntKind.i64.wrap (S + x * y) = S + x * y := IntWalk.i64_in _ ⟨by omega, by omega⟩
            have w6 : (S + x * y).tmod 65521 = (S + x * y) % 65521 := Int.tmod_eq_emod_of_nonneg (by omega)
            have k1 : (k : Int) < (m : Int) := by omega
            have k0 : (0 : Int) ≤ (k : Int) := by omega
            go_wp2
            go_still_tail 31, (by kernel_rfl)
            change wpList _ _ _ _ _ wr2.drew
            replace hxc : wr2.drew.cell? _ = _ := hxc
            replace hxf : wr2.drew.frozen? _ = _ := hxf
            clear hcs2 hcf' hcf2' hc1''
            generalize wr2.drew = wd at hxc hxf hput hB3 ⊢
            go_wp2
            go_roundw
            case rel => exact ⟨k + 1, by omega, by go_num, hB3, hput⟩
            case measure => simp [intOf] <;> omega
          · obtain rfl : m = k := by omega
            go_wp2
            go_roundw
            case rel => exact ⟨i + 1, by omega, by go_num, hB, by rw [← wnL_row]; exact hO⟩
            case measure => simp [intOf] <;> omega
      · obtain rfl : m = i := by omega
        go_wp2
        go_ret
        have hsw := hBW2.out.size
        refine ⟨⟨_, rfl, ?_⟩, hBW2.out.trans (hB.out.mono hsw)⟩
        rw [hres.out, ← hend.out]
        exact hO.out.base hsw
end Go.Proofs.YtfljkcmijnhgkaaDoor

namespace Go.Proofs.YtfljkcmijnhgkaaDoor

/-- As many terms as the order, from n on. -/
def winT (r : Rule) (n : Nat) : List Int := (List.range r.by_.length).map fun j => termK r (n + j)
section
variable {r : Rule}
theorem comp_col (hl : r.start.length = r.by_.length) (hb : ∀ x ∈ r.by_, 0 ≤ x ∧ x < 65521) (hm : 0 < r.by_.length) : ∀ (e i : Nat), i < r.by_.length →
    S r.by_.length (fun j => G (powL (compM r.by_) r.by_.length e) i j * seqF r (r.by_.length - 1 - j)) = seqF r (e + r.by_.length - 1 - i)
  | 0, i, hi => by
    rw [show powL (compM r.by_) r.by_.length 0 = idM r.by_.length from rfl, S_one (k := i) hi (fun j hj hne => by rw [G_idM hi hj, one, if_neg (fun e => hne e.symm)]; grind), G_idM hi hi, one, if_pos rfl, Nat.zero_add]; grind
  | e + 1, i, hi => by
    have hA := okM_comp hb
    have hP := okM_powL hA hm e
    have h1 : S r.by_.length (fun j => G (powL (compM r.by_) r.by_.length (e + 1)) i j * seqF r (r.by_.length - 1 - j)) = S r.by_.length (fun q => G (compM r.by_) i q * seqF r (e + r.by_.length - 1 - q)) := by
      rw [S_congr (g := fun j => S r.by_.length (fun q => G (compM r.by_) i q * (G (powL (compM r.by_) r.by_.length e) q j * seqF r (r.by_.length - 1 - j)))) (fun j hj => by
        show G (prodM (compM r.by_) (powL (compM r.by_) r.by_.length e)) i j * _ = _
        rw [G_prod hA hP hm hi hj]
        unfold mul
        rw [← S_mul']; exact S_congr fun q _ => by grind), S_swap]
      exact S_congr fun q hq => by rw [S_mul, comp_col hl hb hm e q hq]
    rw [h1]
    by_cases h0 : i = 0
    · subst h0
      rw [show e + 1 + r.by_.length - 1 - 0 = e + r.by_.length by omega, seq_rec hl e, S_turn]
      refine S_congr fun q hq => ?_
      rw [show e + r.by_.length - 1 - (r.by_.length - 1 - q) = e + q by omega]
      congr 1
      show toF (gM (compM r.by_) 0 (r.by_.length - 1 - q)) = _
      rw [compM, gM_mat _ hm (by omega), compE, if_pos rfl]
    · rw [S_one (k := i - 1) (by omega) (fun q hq hne => by
        show toF (gM (compM r.by_) i q) * _ = 0
        rw [compM, gM_mat _ hi hq, compE, if_neg h0, if_neg (by omega), toF_zero]; grind)]
      show toF (gM (compM r.by_) i (i - 1)) * _ = _
      rw [compM, gM_mat _ hi (by omega), compE, if_neg h0, if_pos (by omega), toF_one, show e + r.by_.length - 1 - (i - 1) = e + 1 + r.by_.length - 1 - i by omega]; grind
theorem winT_len (r : Rule) (n : Nat) : (winT r n).length = r.by_.length := by simp [winT]
theorem winT_get (r : Rule) (n : Nat) {j : Nat} (hj : j < r.by_.length) : (winT r n).getD j 0 = termK r (n + j) := getD_map_range _ _ hj
theorem okM_colS (hl : r.start.length = r.by_.length) (hs : ∀ x ∈ r.start, 0 ≤ x ∧ x < 65521) : okM (colM r.start) r.by_.length 1 := hl ▸ okM_col hs
/-- The program's way far away. -/
theorem fromM_win (hl : r.start.length = r.by_.length) (hb : ∀ x ∈ r.by_, 0 ≤ x ∧ x < 65521) (hs : ∀ x ∈ r.start, 0 ≤ x ∧ x < 65521) {n : Nat} (hn : n < 18446744073709551616) : fromM r n = winT r n := by
  unfold fromM
  by_cases h0 : r.by_.length = 0
  · rw [if_pos h0, winT, h0]; rfl
  · rw [if_neg h0]
    have hm : 0 < r.by_.length := by omega
    have hA := okM_comp hb
    have hP := okM_powL hA hm n
    rw [powMat_eq hA hm hn, prodM, hP.1, (okM_colS hl hs).len0 hm]
    apply List.ext_getElem (by simp [mat, winT])
    intro j h1 h2
    have hj : j < r.by_.length := by simpa [winT] using h2
    rw [List.getElem_reverse]
    simp only [mat, List.getElem_map, List.getElem_range, List.length_map, List.length_range, winT]
    have hi : r.by_.length - 1 - j < r.by_.length := by omega
    rw [getD_map_range _ _ (by omega)]
    refine toF_inj ⟨Int.emod_nonneg _ (by decide), Int.emod_lt_of_pos _ (by decide)⟩ (termK_bd hs _) ?_
    rw [prodE, hP.row hi, toF_emod, toF_psum]
    have h3 := comp_col hl hb hm n (r.by_.length - 1 - j) hi
    rw [show n + r.by_.length - 1 - (r.by_.length - 1 - j) = n + j by omega] at h3
    show _ = seqF r (n + j)
    rw [← h3]
    refine S_congr fun q hq => ?_
    rw [toF_emod, toF_mul]
    congr 1
    show toF (gM (colM r.start) q 0) = toF (termK r _)
    rw [colM, gM_mat _ (by omega) (by omega), colE, hl, termK, if_pos (by omega)]
/-- The rule that begins far away goes on as the rule does. -/
theorem termK_from (hl : r.start.length = r.by_.length) (hs : ∀ x ∈ r.start, 0 ≤ x ∧ x < 65521) (f : Nat) : ∀ (t : Nat), termK ⟨r.by_, winT r f⟩ t = termK r (f + t) := by
  have hw : ∀ x ∈ winT r f, 0 ≤ x ∧ x < 65521 := fun x hx => by
    obtain ⟨j, _, rfl⟩ := List.mem_map.1 hx
    exact termK_bd hs _
  intro t
  induction t using Nat.strongRecOn with
  | _ t ih =>
    by_cases h : t < r.by_.length
    · rw [termK, if_pos (by rw [winT_len]; exact h)]; exact winT_get r f h
    · obtain ⟨u, rfl⟩ : ∃ u, t = u + r.by_.length := ⟨t - r.by_.length, by omega⟩
      refine toF_inj (termK_bd (r := ⟨r.by_, winT r f⟩) hw _) (termK_bd hs _) ?_
      have h1 := seq_rec (r := ⟨r.by_, winT r f⟩) (winT_len r f) u
      have h2 := seq_rec (r := r) hl (f + u)
      show seqF ⟨r.by_, winT r f⟩ (u + r.by_.length) = seqF r _
      rw [h1, show f + (u + r.by_.length) = f + u + r.by_.length by omega, h2]
      refine S_congr fun i hi => ?_
      show _ * toF (termK _ (u + i)) = _ * toF (termK r _)
      have hi' : i < r.by_.length := hi
      rw [ih (u + i) (by omega), show f + (u + i) = f + u + i by omega]
end
end Go.Proofs.YtfljkcmijnhgkaaDoor
