/- From: its contract. -/
import Derived.Test.YtfljkcmijnhgkaaDoorTerm
import Derived.Test.YtfljkcmijnhgkaaDoorReg
import Derived.Laws.Rows
namespace Go.Proofs.YtfljkcmijnhgkaaDoor
open Go.RowKit Go.Shelf
set_option linter.unusedSimpArgs false

/-- Two results, the first one a row that lies in a cell. -/
theorem res_ct {P : Program} {fn : Func} {p u : Tmp} {ty : TypeId} (h : fn.results = #[.cell p ty, .tmp u]) (tmps : Array Value) (w : World) (g : Nat) (t : TypeId) (cs : Array Value) (fr : Nat × Nat) (d : TypeDesc)
    (hp : tmps.getD p undef = .pointer (some ⟨g, 0, none⟩)) (hg : w.heap[g]? = some (.cells cs t fr))
    (hu : P.underlying ty = some d) (hd : (match d with | .struct _ | .array _ _ => true | _ => false) = true) (hi : (P.info? ty).map (·.size) = some cs.size) :
    (results fn tmps).run P w = .ok (.tuple #[.agg cs, tmps.getD u undef]) w := by
  have hp' : tmps[p]?.getD undef = .pointer (some ⟨g, 0, none⟩) := by simpa using hp
  simp [results, h, hp', asAddr, run_loadVar_row w g t ty cs fr d hg hu hd hi]
theorem heap_set1 {W : World} {g k : Nat} {cs : Array Value} {t : TypeId} {fr : Nat × Nat} (a : Value) (h : W.heap[g]? = some (.cells cs t fr)) : (W.setCell ⟨g, k, none⟩ a).heap[g]? = some (.cells (cs.setIfInBounds k a) t fr) := by
  obtain ⟨hlt, hk⟩ := Array.getElem?_eq_some_iff.1 h
  show (W.heap.modify g _)[g]? = _
  rw [Array.getElem?_eq_getElem (by rw [Array.size_modify]; exact hlt), Array.getElem_modify_self, hk]
  rfl
theorem heap_set2 {W : World} {g : Nat} {x y : Value} {t : TypeId} {fr : Nat × Nat} (a b : Value) (h : W.heap[g]? = some (.cells #[x, y] t fr)) : ((W.setCell ⟨g, 0, none⟩ a).setCell ⟨g, 1, none⟩ b).heap[g]? = some (.cells #[a, b] t fr) := by
  have := heap_set1 (k := 1) b (heap_set1 (k := 0) a h)
  simpa using this
/-- What From tells: the error and the rule. -/
def frR (r : Rule) (n : Int) : Int × Rule := if rightR r ≠ 0 then (rightR r, ⟨[], []⟩) else if n < 0 then (3, ⟨[], []⟩) else (0, ⟨r.by_, fromM r n.toNat⟩)
/-- A rule of the call's own. -/
def OwnR (w : World) (base : Nat) (v : Value) (r : Rule) : Prop := ∃ a b, v = .agg #[a, b] ∧ OwnI w base a r.by_ ∧ OwnI w base b r.start
def RuleErr (r : Int × Rule) (w : World) (e : Ending) (w' : World) : Prop := ∃ v, e = .returned (.tuple #[v, .int .i64 r.1]) ∧ OwnR w' w.heap.size v r.2 ∧ Below w.heap.size w w'
set_option maxRecDepth 100000 in
set_option maxHeartbeats 1600000 in
theorem From_any (r : Rule) (n : Int) (v : Value) (w : World) (hn : n ≤ 9223372036854775807) (h : RdR w v r) :
    Calls Tryd.prog 74 #[v, .int .i64 n] w (RuleErr (frR r n) w) := by
  have hR := Lib.hid h
  obtain ⟨a, b, rfl, ra, rb⟩ := h
  have hbx : Below w.heap.size w ((w.alloc (.cells #[a, b] 49)).alloc (.cells #[.slice none 0 0, .slice none 0 0] 49)) := ((Below.refl _ _).alloc (Nat.le_refl _) _).alloc (by simp) _
  have hgb : ((w.alloc (.cells #[a, b] 49)).alloc (.cells #[.slice none 0 0, .slice none 0 0] 49)).heap[w.heap.size + 1]? = some (.cells #[.slice none 0 0, .slice none 0 0] 49 (0, 0)) := by
    have h := heap_alloc_new (w.alloc (.cells #[a, b] 49)) (.cells #[.slice none 0 0, .slice none 0 0] 49); rwa [World.size_alloc] at h
  have hga : ((w.alloc (.cells #[a, b] 49)).alloc (.cells #[.slice none 0 0, .slice none 0 0] 49)).heap[w.heap.size]? = some (.cells #[a, b] 49 (0, 0)) := by
    rw [((Below.refl _ (w.alloc (.cells #[a, b] 49))).alloc (Nat.le_refl _) _).block w.heap.size (by simp)]; exact heap_alloc_new _ _
  have hsz : ((w.alloc (.cells #[a, b] 49)).alloc (.cells #[.slice none 0 0, .slice none 0 0] 49)).heap.size = w.heap.size + 2 := by simp
  clear rb
  by_cases h0 : rightR r = 0
  · obtain ⟨o1, o2, o3, o4⟩ := rightR_ok h0
    by_cases h1 : n < 0
    · have hr : Hid (frR r n = (3, ⟨[], []⟩)) := Lib.hid (by rw [frR, if_neg (by simpa using h0), if_pos h1])
      have hri := Lib.hid (fun W (hW : Below w.heap.size w W) => Right_any r _ W (hR.out.below hW (Nat.le_refl _)))
      rw [h0] at hri
      clear hR h0
      go_enter Tryd.func74, Tryd.ntmps74
      go_wp2_with fail
      generalize (w.alloc (.cells #[a, b] 49)).alloc (.cells #[.slice none 0 0, .slice none 0 0] 49) = X at *
      refine (hri.out X hbx).mono ?_; rintro e W1 ⟨rfl, hB1⟩
      have hB2 := Below.then_ hbx hB1
      have hg2 := (hB1.block (w.heap.size + 1) (by omega)).trans hgb
      have d0 : W1.cell? ⟨w.heap.size + 1, 0, none⟩ = some (.slice none 0 0) := by unfold World.cell?; rw [hg2]; rfl
      have d1 : W1.cell? ⟨w.heap.size + 1, 1, none⟩ = some (.slice none 0 0) := by unfold World.cell?; rw [hg2]; rfl
      have d2 : W1.frozen? ⟨w.heap.size + 1, 0, none⟩ = false := by unfold World.frozen?; rw [hg2]; rfl
      have d3 : W1.frozen? ⟨w.heap.size + 1, 1, none⟩ = false := by unfold World.frozen?; rw [hg2]; rfl
      clear hga hgb hsz hbx
      go_wp2
      refine bodyPost_ret (res_ct rfl _ _ (w.heap.size + 1) 49 #[.slice none 0 0, .slice none 0 0] (0, 0) _ rfl (heap_set2 _ _ hg2) rfl rfl rfl) rfl ?_
      rw [hr.out]
      exact ⟨_, rfl, ⟨_, _, rfl, OwnI_nil _ _, OwnI_nil _ _⟩, (hB2.setCell (p := ⟨w.heap.size + 1, 0, none⟩) (by simp) _).setCell (p := ⟨w.heap.size + 1, 1, none⟩) (by simp) _⟩
    · have hr : Hid (frR r n = (0, ⟨r.by_, fromM r n.toNat⟩)) := Lib.hid (by rw [frR, if_neg (by simpa using h0), if_neg h1])
      obtain ⟨k, rfl⟩ := Int.eq_ofNat_of_zero_le (show 0 ≤ n by omega)
      rw [Int.toNat_natCast] at hr
      have hri := Lib.hid (fun W (hW : Below w.heap.size w W) => Right_any r _ W (hR.out.below hW (Nat.le_refl _)))
      rw [h0] at hri
      have hcl := Lib.hid (fun W (hW : Below w.heap.size w W) => Clone_any r.by_ a W (ra.below hW (Nat.le_refl _)) (by omega))
      have hf := Lib.hid (fun W (hW : Below w.heap.size w W) => from_any r k _ W (by omega) o2 o3 o4 (by omega) (hR.out.below hW (Nat.le_refl _)))
      clear hR h0
      go_enter Tryd.func74, Tryd.ntmps74
      go_wp2_with fail
      generalize (w.alloc (.cells #[a, b] 49)).alloc (.cells #[.slice none 0 0, .slice none 0 0] 49) = X at *
      refine (hri.out X hbx).mono ?_; rintro e W1 ⟨rfl, hB1⟩
      have hB2 := Lib.hid (Below.then_ hbx hB1)
      have hg2 := Lib.hid ((hB1.block (w.heap.size + 1) (by omega)).trans hgb)
      have hg3 := Lib.hid ((hB1.block w.heap.size (by omega)).trans hga)
      clear hga hgb hsz hbx hB1
      go_wp2
      refine D_begin (fun w' => w'.cell? ⟨w.heap.size, 0, none⟩ = some a ∧ w'.cell? ⟨w.heap.size, 1, none⟩ = some b) (fun _ => True) 7 (by kernel_rfl) ?_
      change wpAnyD _ _ _ _ _ _ _ _ _ _ W1.drew
      have HS : W1.drew.cell? ⟨w.heap.size, 0, none⟩ = some a ∧ W1.drew.cell? ⟨w.heap.size, 1, none⟩ = some b := ⟨by unfold World.cell?; rw [show W1.drew.heap[w.heap.size]? = _ from hg3.out]; rfl, by unfold World.cell?; rw [show W1.drew.heap[w.heap.size]? = _ from hg3.out]; rfl⟩
      simp only [List.size_toArray, List.length_cons, List.length_nil, Nat.reduceAdd, Array.replicate_succ, Array.replicate_zero, List.push_toArray, List.append_toArray, List.nil_append, List.cons_append]
      refine D_take (i := 0) (v := ?_) rfl (by kernel_rfl) (by kernel_rfl) (by kernel_rfl) (by kernel_rfl) (fun _ _ _ h => h) (Or.inl ⟨by rfl, ?_⟩) HS (fun _ => trivial) ?_
      rotate_left; · intro w1 hw1; obtain ⟨hw1, hw2⟩ := hw1; go_simp; try with_reducible rfl
      try simp only [Act.put, List.setIfInBounds_toArray, List.set_cons_zero, List.set_cons_succ]
      refine D_take (i := 1) (v := ?_) rfl (by kernel_rfl) (by kernel_rfl) (by kernel_rfl) (by kernel_rfl) (fun _ _ _ h => h) (Or.inl ⟨by rfl, ?_⟩) HS (fun _ => trivial) ?_
      rotate_left; · intro w1 hw1; obtain ⟨hw1, hw2⟩ := hw1; go_simp; try with_reducible rfl
      try simp only [Act.put, List.setIfInBounds_toArray, List.set_cons_zero, List.set_cons_succ]
      refine D_take (i := 3) (v := ?_) rfl (by kernel_rfl) (by kernel_rfl) (by kernel_rfl) (by kernel_rfl) (fun _ _ _ h => h) (Or.inl ⟨by rfl, ?_⟩) HS (fun _ => trivial) ?_
      rotate_left; · intro w1 hw1; obtain ⟨hw1, hw2⟩ := hw1; go_simp; try with_reducible rfl
      try simp only [Act.put, List.setIfInBounds_toArray, List.set_cons_zero, List.set_cons_succ]
      refine D_take (i := 4) (v := ?_) rfl (by kernel_rfl) (by kernel_rfl) (by kernel_rfl) (by kernel_rfl) (fun _ _ _ h => h) (Or.inl ⟨by rfl, ?_⟩) HS (fun _ => trivial) ?_
      rotate_left; · intro w1 hw1; obtain ⟨hw1, hw2⟩ := hw1; go_simp; try with_reducible rfl
      try simp only [Act.put, List.setIfInBounds_toArray, List.set_cons_zero, List.set_cons_succ]
      refine D_one (i := 2) (by kernel_rfl) rfl ?_
      intro K hK
      rw [if_pos (by rfl)]
      go_wp2_with fail
      refine (hcl.out W1.drew hB2.out.drew).mono ?_; rintro e W2 ⟨⟨va, rfl, hO1⟩, hB3⟩
      obtain ⟨A1, c1, rfl⟩ : ∃ A c, va = .slice A r.by_.length c := by have h := hO1; unfold OwnI at h; exact own_form h
      have hl1 : w.heap.size < W1.drew.heap.size := lt_of_block hg3.out
      have HS2 := And.intro ((hB3.cell (p := ⟨w.heap.size, 0, none⟩) hl1).trans HS.1) ((hB3.cell (p := ⟨w.heap.size, 1, none⟩) hl1).trans HS.2)
      have hB4 := Lib.hid (Below.then_ hB2.out.drew hB3)
      refine hK _ _ HS2 (fun _ _ => trivial) ?_
      clear hK K
      try simp only [List.setIfInBounds_toArray, List.set_cons_zero, List.set_cons_succ]
      refine D_one (i := 5) (by kernel_rfl) rfl ?_
      intro K hK
      rw [if_pos (by rfl)]
      go_wp2_with fail
      refine (hf.out W2 hB4.out).mono ?_; rintro e W3 ⟨⟨vb, rfl, hO2⟩, hB5⟩
      obtain ⟨A2, c2, rfl⟩ : ∃ A c, vb = .slice A (fromM r k).length c := by have h := hO2; unfold OwnI at h; exact own_form h
      have hl2 : w.heap.size < W2.heap.size := Nat.lt_of_lt_of_le hl1 hB3.size
      have hl3 : w.heap.size + 1 < W1.drew.heap.size := lt_of_block hg2.out
      have hl4 : w.heap.size + 1 < W2.heap.size := Nat.lt_of_lt_of_le hl3 hB3.size
      have HS3 := And.intro ((hB5.cell (p := ⟨w.heap.size, 0, none⟩) hl2).trans HS2.1) ((hB5.cell (p := ⟨w.heap.size, 1, none⟩) hl2).trans HS2.2)
      have hB6 := Lib.hid (Below.then_ hB4.out hB5)
      have hg4 := (hB5.block (w.heap.size + 1) hl4).trans ((hB3.block (w.heap.size + 1) hl3).trans hg2.out)
      have hO3 := Lib.hid (hO1.below hB5)
      replace hO2 := Lib.hid hO2
      have d0 : W3.cell? ⟨w.heap.size + 1, 0, none⟩ = some (.slice none 0 0) := by unfold World.cell?; rw [hg4]; rfl
      have d1 : W3.cell? ⟨w.heap.size + 1, 1, none⟩ = some (.slice none 0 0) := by unfold World.cell?; rw [hg4]; rfl
      have d2 : W3.frozen? ⟨w.heap.size + 1, 0, none⟩ = false := by unfold World.frozen?; rw [hg4]; rfl
      have d3 : W3.frozen? ⟨w.heap.size + 1, 1, none⟩ = false := by unfold World.frozen?; rw [hg4]; rfl
      refine hK _ _ HS3 (fun _ _ => trivial) ?_
      clear hK K
      try simp only [List.setIfInBounds_toArray, List.set_cons_zero, List.set_cons_succ]
      refine D_one (i := 6) (by kernel_rfl) rfl ?_
      intro K hK
      rw [if_pos (by rfl)]
      go_simp
      refine hK _ _ HS3 (fun _ _ => trivial) ?_
      clear hK K
      try simp only [List.setIfInBounds_toArray, List.set_cons_zero, List.set_cons_succ]
      refine D_one (i := 7) (by kernel_rfl) rfl ?_
      intro K hK
      rw [if_pos (by rfl)]
      go_simp
      have hne : w.heap.size ≠ w.heap.size + 1 := by omega
      have HS4 : ∀ x y, (((W3.setCell ⟨w.heap.size + 1, 0, none⟩ x).setCell ⟨w.heap.size + 1, 1, none⟩ y).cell? ⟨w.heap.size, 0, none⟩ = some a ∧ ((W3.setCell ⟨w.heap.size + 1, 0, none⟩ x).setCell ⟨w.heap.size + 1, 1, none⟩ y).cell? ⟨w.heap.size, 1, none⟩ = some b) := fun x y =>
        ⟨((World.cell?_of_block (Below.heap_setCell _ _ _ _ hne)).trans (World.cell?_of_block (Below.heap_setCell _ _ _ _ hne))).trans HS3.1, ((World.cell?_of_block (Below.heap_setCell _ _ _ _ hne)).trans (World.cell?_of_block (Below.heap_setCell _ _ _ _ hne))).trans HS3.2⟩
      refine hK _ _ (HS4 _ _) (fun _ _ => trivial) ?_
      clear hK K
      try simp only [List.setIfInBounds_toArray, List.set_cons_zero, List.set_cons_succ]
      refine D_one (i := 8) (by kernel_rfl) rfl ?_
      intro K hK
      rw [if_pos (by rfl)]
      go_simp
      refine hK _ _ (HS4 _ _) (fun _ _ => trivial) ?_
      clear hK K
      refine D_done (by kernel_rfl) ?_ _
      have hS5 : ∀ x y, Hid (Below w.heap.size w ((W3.setCell ⟨w.heap.size + 1, 0, none⟩ x).setCell ⟨w.heap.size + 1, 1, none⟩ y)) := fun x y => Lib.hid ((hB6.out.setCell (p := ⟨w.heap.size + 1, 0, none⟩) (by simp) _).setCell (p := ⟨w.heap.size + 1, 1, none⟩) (by simp) _)
      have hT1 : ∀ x y, OwnI ((W3.setCell ⟨w.heap.size + 1, 0, none⟩ x).setCell ⟨w.heap.size + 1, 1, none⟩ y) W1.drew.heap.size (.slice A1 r.by_.length c1) r.by_ := fun x y => own_of_block hO3.out (fun g hg => by
        have := (hO3.out.lt g hg).1
        rw [Below.heap_setCell _ _ _ _ (by show g ≠ w.heap.size + 1; omega), Below.heap_setCell _ _ _ _ (by show g ≠ w.heap.size + 1; omega)])
      have hT2 : ∀ x y, OwnI ((W3.setCell ⟨w.heap.size + 1, 0, none⟩ x).setCell ⟨w.heap.size + 1, 1, none⟩ y) W2.heap.size (.slice A2 (fromM r k).length c2) (fromM r k) := fun x y => own_of_block hO2.out (fun g hg => by
        have := (hO2.out.lt g hg).1
        rw [Below.heap_setCell _ _ _ _ (by show g ≠ w.heap.size + 1; omega), Below.heap_setCell _ _ _ _ (by show g ≠ w.heap.size + 1; omega)])
      have hsz1 : w.heap.size ≤ W1.drew.heap.size := Nat.le_of_lt hl1
      have hsz2 : w.heap.size ≤ W2.heap.size := Nat.le_of_lt hl2
      go_wp2
      refine bodyPost_ret (res_ct rfl _ _ (w.heap.size + 1) 49 #[.slice A1 r.by_.length c1, .slice A2 (fromM r k).length c2] (0, 0) _ rfl (heap_set2 _ _ hg4) rfl rfl rfl) rfl ?_
      rw [hr.out]
      exact ⟨_, rfl, ⟨_, _, rfl, (hT1 _ _).base hsz1, (hT2 _ _).base hsz2⟩, (hS5 _ _).out⟩
  · have hr : Hid (frR r n = (rightR r, ⟨[], []⟩)) := Lib.hid (by rw [frR, if_pos h0])
    have hne : (rightR r != 0) = true := by rw [bne_iff_ne]; exact h0
    have hca := Lib.hid (rightR_cases r)
    have hri := Lib.hid (fun W (hW : Below w.heap.size w W) => Right_any r _ W (hR.out.below hW (Nat.le_refl _)))
    generalize rightR r = x at *
    clear hR h0
    go_enter Tryd.func74, Tryd.ntmps74
    go_wp2_with fail
    generalize (w.alloc (.cells #[a, b] 49)).alloc (.cells #[.slice none 0 0, .slice none 0 0] 49) = X at *
    refine (hri.out X hbx).mono ?_; rintro e W1 ⟨rfl, hB1⟩
    have hB2 := Below.then_ hbx hB1
    have hg2 := (hB1.block (w.heap.size + 1) (by omega)).trans hgb
    have d0 : W1.cell? ⟨w.heap.size + 1, 0, none⟩ = some (.slice none 0 0) := by unfold World.cell?; rw [hg2]; rfl
    have d1 : W1.cell? ⟨w.heap.size + 1, 1, none⟩ = some (.slice none 0 0) := by unfold World.cell?; rw [hg2]; rfl
    have d2 : W1.frozen? ⟨w.heap.size + 1, 0, none⟩ = false := by unfold World.frozen?; rw [hg2]; rfl
    have d3 : W1.frozen? ⟨w.heap.size + 1, 1, none⟩ = false := by unfold World.frozen?; rw [hg2]; rfl
    clear hga hgb hsz hbx
    go_wp2
    refine bodyPost_ret (res_ct rfl _ _ (w.heap.size + 1) 49 #[.slice none 0 0, .slice none 0 0] (0, 0) _ rfl (heap_set2 _ _ hg2) rfl rfl rfl) rfl ?_
    rw [hr.out]
    exact ⟨_, rfl, ⟨_, _, rfl, OwnI_nil _ _, OwnI_nil _ _⟩, (hB2.setCell (p := ⟨w.heap.size + 1, 0, none⟩) (by simp) _).setCell (p := ⟨w.heap.size + 1, 1, none⟩) (by simp) _⟩
end Go.Proofs.YtfljkcmijnhgkaaDoor
