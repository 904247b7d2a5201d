/- The reference's Short: its contract; the rule found is no longer than the rule that makes the terms. FieldLeasts: its contract. -/
import Derived.Test.YtfljkcmijnhgkaaDoorKw
import Derived.Test.YtfljkcmijnhgkaaDoorKv
import Derived.Test.YtfljkcmijnhgkaaDoorKy
import Derived.Test.YtfljkcmijnhgkaaDoorKn
import Derived.Test.YtfljkcmijnhgkaaDoorKg
import Derived.Deep.DeepCutAuto
namespace Go.Proofs.YtfljkcmijnhgkaaDoor
open Go.RowKit Go.Shelf
set_option linter.unusedSimpArgs false

/-- The rule that makes the terms fits them. -/
theorem fits_self {r : Rule} (h : rightR r = 0) (n : Nat) (hn : r.by_.length ≤ n) : (fitO (firstL r n) r.by_.length).isSome = true := by
  obtain ⟨o1, o2, o3, o4⟩ := rightR_ok h
  have hbd := firstL_bd o4 n
  have hlen := firstL_len r n
  have hterm : ∀ N j, j < N → (firstL r N).getD j 0 = termK r j := fun N => by
    induction N with
    | zero => intro j hj; omega
    | succ N ih =>
      intro j hj
      rw [firstL_succ, List.getD_eq_getElem?_getD]
      by_cases e : j < N
      · rw [List.getElem?_append_left (by rw [firstL_len]; exact e), ← List.getD_eq_getElem?_getD]; exact ih j e
      · have : j = N := by omega
        subst this
        rw [List.getElem?_append_right (by rw [firstL_len]; exact Nat.le_refl _), firstL_len, Nat.sub_self]; rfl
  have hs := solvedM_complete (rs := rowsL (firstL r n) r.by_.length) (b := (firstL r n).drop r.by_.length) (n := n - r.by_.length) (m := r.by_.length) (by have := okM_rowsL hbd r.by_.length; rwa [hlen] at this) (fun x hx => hbd x (List.mem_of_mem_drop hx)) (by rw [List.length_drop, hlen]) (y := fun k => toF (r.by_.getD k 0)) (fun i hi => by
    have e1 : (((firstL r n).drop r.by_.length).getD i 0) = termK r (r.by_.length + i) := by
      rw [List.getD_eq_getElem?_getD, List.getElem?_drop, ← List.getD_eq_getElem?_getD, hterm n _ (by omega)]
    rw [e1, termK, if_neg (by omega), nextT, toF_emod, toF_psum]
    refine S_congr fun k hk => ?_
    rw [toF_emod, toF_mul, firstL_len]
    have e2 : G (rowsL (firstL r n) r.by_.length) i k = toF ((firstL r (r.by_.length + i)).getD (r.by_.length + i - 1 - k) 0) := by
      show toF (gM _ i k) = _
      rw [rowsL, hlen, gM_mat _ hi hk, hterm n _ (by omega), hterm (r.by_.length + i) _ (by omega)]
    rw [e2]; grind)
  rw [fitO, hs]; rfl
theorem fitL_first {l : List Int} {k : Nat} (hk : (fitO l k).isSome = true) : ∀ (d : Nat), fitL l (List.range (k + 1 + d)) = fitL l (List.range (k + 1)) := fun d => by
  obtain ⟨by_, hby⟩ := Option.isSome_iff_exists.1 hk
  have cut : ∀ (a b : List Nat), (∃ o ∈ a, (fitO l o).isSome = true) → fitL l (a ++ b) = fitL l a := fun a => by
    induction a with
    | nil => rintro b ⟨o, ho, _⟩; cases ho
    | cons o a ih =>
      rintro b ⟨q, hq, hs⟩
      rw [List.cons_append, fitL, fitL]
      cases e : fitO l o with
      | some x => rfl
      | none =>
        simp only []
        refine ih b ?_
        rcases List.mem_cons.1 hq with rfl | hq
        · rw [e] at hs; cases hs
        · exact ⟨q, hq, hs⟩
  rw [show List.range (k + 1 + d) = List.range (k + 1) ++ List.range' (k + 1) d by rw [List.range_eq_range', List.range_eq_range', ← List.range'_append_1, Nat.zero_add]]
  exact cut _ _ ⟨k, by simp, hk⟩
theorem fitM_least {l : List Int} {k m m' : Nat} (hk : (fitO l k).isSome = true) (h1 : k ≤ min m l.length) (h2 : k ≤ min m' l.length) : fitM l m = fitM l m' := by
  unfold fitM
  obtain ⟨d, hd⟩ := Nat.exists_eq_add_of_le h1
  obtain ⟨e, he⟩ := Nat.exists_eq_add_of_le h2
  rw [hd, he, show k + d + 1 = k + 1 + d by omega, show k + e + 1 = k + 1 + e by omega, fitL_first hk, fitL_first hk]
theorem short_fit {r : Rule} (h : rightR r = 0) : fitM (firstL r (2 * r.by_.length)) 12 = fitM (firstL r (2 * r.by_.length)) r.by_.length := by
  obtain ⟨o1, -⟩ := rightR_ok h
  exact fitM_least (fits_self h _ (by omega)) (by rw [firstL_len]; omega) (by rw [firstL_len]; omega)
set_option maxRecDepth 100000 in
set_option maxHeartbeats 3200000 in
theorem refShort_any (r : Rule) (v : Value) (w : World) (h : RdR w v r) :
    Calls Tryd.prog 46 #[v] w (RuleOut (shortR r) w) := by
  have hR := Lib.hid h
  obtain ⟨a, b, rfl, ra, rb⟩ := h
  obtain ⟨A1, d1, rfl, m1, m2, -⟩ := ra.open_
  obtain ⟨A2, d2, rfl, -⟩ := rb.open_
  have hbx : Below w.heap.size w ((w.alloc (.cells #[.slice A1 r.by_.length d1, .slice A2 r.start.length d2] 49)).alloc (.cells #[.slice none 0 0, .slice none 0 0] 49)) := ((Below.refl _ _).alloc (Nat.le_refl _) _).alloc (by simp) _
  have hga : ((w.alloc (.cells #[.slice A1 r.by_.length d1, .slice A2 r.start.length d2] 49)).alloc (.cells #[.slice none 0 0, .slice none 0 0] 49)).heap[w.heap.size]? = some (.cells #[.slice A1 r.by_.length d1, .slice A2 r.start.length d2] 49 (0, 0)) := by
    rw [((Below.refl _ (w.alloc (.cells #[.slice A1 r.by_.length d1, .slice A2 r.start.length d2] 49))).alloc (Nat.le_refl _) _).block w.heap.size (by simp)]; exact heap_alloc_new _ _
  have hgb : ((w.alloc (.cells #[.slice A1 r.by_.length d1, .slice A2 r.start.length d2] 49)).alloc (.cells #[.slice none 0 0, .slice none 0 0] 49)).heap[w.heap.size + 1]? = some (.cells #[.slice none 0 0, .slice none 0 0] 49 (0, 0)) := by
    have h := heap_alloc_new (w.alloc (.cells #[.slice A1 r.by_.length d1, .slice A2 r.start.length d2] 49)) (.cells #[.slice none 0 0, .slice none 0 0] 49); rwa [World.size_alloc] at h
  have hsz : ((w.alloc (.cells #[.slice A1 r.by_.length d1, .slice A2 r.start.length d2] 49)).alloc (.cells #[.slice none 0 0, .slice none 0 0] 49)).heap.size = w.heap.size + 2 := by simp
  have hri := Lib.hid (refRight_any r _ _ (hR.out.below hbx (Nat.le_refl _)))
  clear ra rb
  by_cases h0 : rightR r = 0
  · have hr : Hid (shortR r = ((fitM (firstL r (2 * r.by_.length)) 12).getD ⟨[], []⟩, 0)) := Lib.hid (by rw [shortR, if_neg (by simpa using h0), short_fit h0])
    obtain ⟨o1, o2, o3, o4⟩ := rightR_ok h0
    have hfi := Lib.hid (fun W (hW : Below w.heap.size w W) => refFirst_any r (2 * r.by_.length) _ W (hR.out.below hW (Nat.le_refl _)) h0 (by omega))
    have hft := Lib.hid (fun v W hv => refFit_any (firstL r (2 * r.by_.length)) v W (by rw [firstL_len]; omega) (firstL_bd o4 _) hv)
    have hfl := Lib.hid (firstL_len r (2 * r.by_.length))
    rw [h0] at hri
    clear h0 o2 o3 o4 hR m2
    generalize firstL r (2 * r.by_.length) = FL at *
    generalize fitM FL 12 = FM at *
    generalize hn1 : r.by_.length = n at *
    generalize r.start.length = m at *
    generalize shortR r = SR at *
    have e2 : 2 * (n : Int) = ((2 * n : Nat) : Int) := by omega
    have w2 : IntKind.i64.wrap ((2 * n : Nat) : Int) = ((2 * n : Nat) : Int) := IntWalk.i64_in _ ⟨by omega, by omega⟩
    replace hn1 := Lib.hid hn1
    generalize 2 * n = n2 at *
    unfold FitRes at hft
    go_enter Tryd.func46, Tryd.ntmps46
    go_wp2_with fail
    generalize (w.alloc (.cells #[.slice A1 n d1, .slice A2 m d2] 49)).alloc (.cells #[.slice none 0 0, .slice none 0 0] 49) = X at *
    refine hri.out.mono ?_; rintro e W1 ⟨rfl, hB1⟩
    have hgX := (hB1.block w.heap.size (by omega)).trans hga
    obtain ⟨c0, c1, -, -⟩ := ret_cell hgX
    have hgY := (hB1.block (w.heap.size + 1) (by omega)).trans hgb
    have hB2 := Lib.hid (Below.then_ hbx hB1)
    clear hga hgb hri m1 hgX
    go_wp2_with fail
    refine (hfi.out W1 hB2.out).mono ?_; rintro e W2 ⟨⟨fv, rfl, hO⟩, hB3⟩
    have hl2 : w.heap.size + 1 < W1.heap.size := lt_of_block hgY
    have hgY2 := (hB3.block (w.heap.size + 1) hl2).trans hgY
    have hB4 := Lib.hid (Below.then_ hB2.out hB3)
    have hF := Lib.hid (hO.rd (by rw [hfl.out]; omega))
    clear hO hB3 hgY
    go_wp2_with fail
    refine (hft.out fv W2 hF.out).mono ?_; rintro e W3 ⟨v, rfl, hR3, hB5⟩
    have hl3 : w.heap.size + 1 < W2.heap.size := lt_of_block hgY2
    have hgY3 := (hB5.block (w.heap.size + 1) hl3).trans hgY2
    have hB6 := Lib.hid (Below.then_ hB4.out hB5)
    have hz := hB4.out.size
    change OwnR _ _ _ _ at hR3
    obtain ⟨vA, vn, vc, vB, vm, vd, rfl⟩ := hR3.shape
    have hal : Below W3.heap.size W3 (W3.alloc (.cells #[.slice vA vn vc, .slice vB vm vd] 49)) := (Below.refl _ _).alloc (Nat.le_refl _) _
    have hgn : (W3.alloc (.cells #[.slice vA vn vc, .slice vB vm vd] 49)).heap[W3.heap.size]? = some (.cells #[.slice vA vn vc, .slice vB vm vd] 49 (0, 0)) := heap_alloc_new _ _
    obtain ⟨d4, d5, -, -⟩ := ret_cell hgn
    have hl4 : w.heap.size + 1 < W3.heap.size := lt_of_block hgY3
    have hgE := (hal.block (w.heap.size + 1) hl4).trans hgY3
    obtain ⟨p0, p1, p2, p3⟩ := ret_cell hgE
    obtain ⟨q0, q1, q2, q3⟩ := ret_cell hgY3
    have hRE := Lib.hid (own_apart (x := .slice vA vn vc) (y := .slice vB vm vd) (own_kept hR3 hz (fun _ _ _ => rfl)) hgY3)
    have hBE := Lib.hid ((hB6.out.setCell (p := ⟨w.heap.size + 1, 0, none⟩) (by simp) (.slice vA vn vc)).setCell (p := ⟨w.heap.size + 1, 1, none⟩) (by simp) (.slice vB vm vd))
    have hgF := Lib.hid (heap_set2 (.slice vA vn vc) (.slice vB vm vd) hgY3)
    have hx := Lib.hid (fun (Y : World) (hY : Y = (W3.setCell ⟨w.heap.size + 1, 0, none⟩ (.slice vA vn vc)).setCell ⟨w.heap.size + 1, 1, none⟩ (.slice vB vm vd)) => (Below.refl Y.heap.size Y).alloc (Nat.le_refl _) (.cells #[.slice vA vn vc, .slice vB vm vd] 49))
    clear hgn hgY3 hgY2 hB5 hR3 hal hgE
    go_wp2
    have hy := hx.out _ rfl
    refine bodyPost_ret (res_ct rfl _ _ (w.heap.size + 1) 49 #[.slice vA vn vc, .slice vB vm vd] (0, 0) _ rfl ((hy.block _ (lt_of_block hgF.out)).trans hgF.out) rfl rfl rfl) rfl ?_
    rw [hr.out]
    exact ⟨_, rfl, hRE.out.below hy, Below.then_ hBE.out hy⟩
  · have hr : Hid (shortR r = (⟨[], []⟩, rightR r)) := Lib.hid (by rw [shortR, if_pos h0])
    have hne : (rightR r != 0) = true := by rw [bne_iff_ne]; exact h0
    generalize rightR r = x at *
    clear hR h0
    generalize r.by_.length = n at *
    generalize r.start.length = m at *
    go_enter Tryd.func46, Tryd.ntmps46
    go_wp2_with fail
    generalize (w.alloc (.cells #[.slice A1 n d1, .slice A2 m d2] 49)).alloc (.cells #[.slice none 0 0, .slice none 0 0] 49) = X at *
    refine hri.out.mono ?_; rintro e W1 ⟨rfl, hB1⟩
    have hB2 := Below.then_ hbx hB1
    have hg2 := (hB1.block (w.heap.size + 1) (by omega)).trans hgb
    obtain ⟨p0, p1, p2, p3⟩ := ret_cell hg2
    clear hga hgb hsz hbx
    go_wp2
    refine bodyPost_ret (res_ct rfl _ _ (w.heap.size + 1) 49 #[.slice none 0 0, .slice none 0 0] (0, 0) _ rfl (heap_set2 _ _ hg2) rfl rfl rfl) rfl ?_
    rw [hr.out]
    exact ⟨_, rfl, ⟨_, _, rfl, OwnI_nil _ _, OwnI_nil _ _⟩, (hB2.setCell (p := ⟨w.heap.size + 1, 0, none⟩) (by simp) _).setCell (p := ⟨w.heap.size + 1, 1, none⟩) (by simp) _⟩
end Go.Proofs.YtfljkcmijnhgkaaDoor

namespace Go.Proofs.YtfljkcmijnhgkaaDoor
open Go.RowKit Go.Shelf
set_option linter.unusedSimpArgs false

theorem fitM_len {l : List Int} {m : Nat} {r : Rule} (h : fitM l m = some r) : r.by_.length ≤ l.length ∧ r.start.length ≤ l.length := by
  have key : ∀ (os : List Nat), (∀ o ∈ os, o ≤ l.length) → fitL l os = some r → r.by_.length ≤ l.length ∧ r.start.length ≤ l.length := fun os => by
    induction os with
    | nil => intro _ h; cases h
    | cons o os ih =>
      intro ho h
      rw [fitL] at h
      cases e : fitO l o with
      | none => rw [e] at h; exact ih (fun q hq => ho q (List.mem_cons_of_mem _ hq)) h
      | some b =>
        rw [e] at h
        obtain rfl := Option.some.inj h
        rw [fitO, solvedM] at e
        split at e
        · obtain rfl := Option.some.inj e
          exact ⟨by rw [fillX_length]; exact ho o List.mem_cons_self, by simp; omega⟩
        · cases e
  exact key _ (fun o ho => by have := List.mem_range.1 ho; omega) h
theorem leastR_lens (l : List Int) : (leastR l).1.by_.length ≤ 1000 ∧ (leastR l).1.start.length ≤ 1000 := by
  unfold leastR
  split
  · exact ⟨by simp, by simp⟩
  · split
    · exact ⟨by simp, by simp⟩
    · split
      · rename_i r hr
        have := fitM_len hr
        simp only []
        omega
      · exact ⟨by simp, by simp⟩
theorem shortR_lens (r : Rule) : (shortR r).1.by_.length ≤ 1000 ∧ (shortR r).1.start.length ≤ 1000 := by
  unfold shortR
  split
  · exact ⟨by simp, by simp⟩
  · rename_i h
    obtain ⟨o1, -⟩ := rightR_ok (by simpa using h)
    cases e : fitM (firstL r (2 * r.by_.length)) r.by_.length with
    | none => exact ⟨by simp, by simp⟩
    | some s =>
      have := fitM_len e
      rw [firstL_len] at this
      simp only [Option.getD_some]
      omega
/-- What the law has made ahead of its calls. -/
structure LeastsCut (w wx : World) (a b : Value) (g : Nat) (dv ua ub : Value) (l : List Int) (r : Rule) : Prop where
  tot : Below w.heap.size w wx
  d : OwnI wx w.heap.size dv l
  r : OwnR wx w.heap.size (.agg #[ua, ub]) r
  b0 : Box2 wx w.heap.size a b
  b1 : Box2 wx g ua ub
theorem leasts_cut {w W : World} {a b ua ub dv : Value} {g : Nat} {l : List Int} {r : Rule} (ht : Below w.heap.size w W) (hd : OwnI W w.heap.size dv l) (hr : OwnR W w.heap.size (.agg #[ua, ub]) r) (hb : Box2 W w.heap.size a b)
    (hn : W.heap[g]? = some (.cells #[.slice none 0 0, .slice none 0 0] 49 (0, 0))) (hg : w.heap.size < g) : LeastsCut w ((W.setCell ⟨g, 0, none⟩ ua).setCell ⟨g, 1, none⟩ ub) a b g dv ua ub l r := by
  have hs := heap_set2 ua ub hn
  have hne : w.heap.size ≠ g := by omega
  refine ⟨(ht.setCell (p := ⟨g, 0, none⟩) (by simp only []; omega) _).setCell (p := ⟨g, 1, none⟩) (by simp only []; omega) _, own_of_block hd (fun k hk => ?_), own_apart hr hn, ?_, (ret_cell hs).1, (ret_cell hs).2.1⟩
  · have hne : k ≠ g := fun e => own_type hd hn (by decide) (by rw [← e]; exact hk)
    rw [Below.heap_setCell _ _ _ _ hne, Below.heap_setCell _ _ _ _ hne]
  · exact ⟨(World.cell?_of_block ((Below.heap_setCell _ _ _ _ hne).trans (Below.heap_setCell _ _ _ _ hne))).trans hb.1, (World.cell?_of_block ((Below.heap_setCell _ _ _ _ hne).trans (Below.heap_setCell _ _ _ _ hne))).trans hb.2⟩
/-- What may be cleared is read as before, if what was written lies apart. -/
theorem FreshRow.rd {b lo hi lo' hi' : Nat} {w w' : World} {u : Value} {xs : List Int} (hr : RdI w u xs) (hf : FreshRow b lo hi w xs.length u) (hb : Btw lo' hi' w w') (hd : hi ≤ lo' ∨ hi' ≤ lo) : RdI w' u xs := by
  obtain ⟨A, c, rfl, h1, h2, h3⟩ := hr
  obtain ⟨A', c', e, hn, h⟩ := hf
  rw [ints_len] at *
  simp only [Value.slice.injEq, true_and] at e
  obtain ⟨rfl, rfl⟩ := e
  refine ⟨A, c, by rw [ints_len], by rw [ints_len]; exact h1, by rw [ints_len]; exact h2, fun hp => ?_⟩
  rw [ints_len] at hp
  obtain ⟨b1, off, rfl, h4⟩ := h3 hp
  obtain ⟨g, o, e, g1, g2, -⟩ := h hp
  simp only [Option.some.injEq, Addr.mk.injEq, and_true] at e
  obtain ⟨rfl, rfl⟩ := e
  exact ⟨b1, off, rfl, fun j u hj => hb.cell (h4 j u hj) (hd.elim (fun h => .inl (Nat.lt_of_lt_of_le g2 h)) (fun h => .inr (Nat.le_trans h g1)))⟩
theorem RdR.btw {lo hi lo' hi' : Nat} {w w' : World} {v : Value} {r : Rule} (hr : RdR w v r) (hf : FreshR lo hi w v r) (hb : Btw lo' hi' w w') (hd : hi ≤ lo' ∨ hi' ≤ lo) : RdR w' v r := by
  obtain ⟨a, b, rfl, ra, rb⟩ := hr
  obtain ⟨a', b', e, fa, fb⟩ := hf
  simp only [Value.agg.injEq, Array.mk.injEq, List.cons.injEq, and_true] at e
  obtain ⟨rfl, rfl⟩ := e
  exact ⟨a, b, rfl, FreshRow.rd ra fa hb hd, FreshRow.rd rb fb hb hd⟩
set_option maxRecDepth 100000 in
set_option maxHeartbeats 6400000 in
theorem FieldLeasts_any (l : List Int) (r : Rule) (vl v : Value) (w : World) (hl : RdI w vl l) (h : RdR w v r) (hJ : Joins w) :
    Calls Tryd.prog 6 #[vl, v] w fun e w' => e = .returned (.bool true) ∧ Below w.heap.size w w' := by
  have hR := Lib.hid h
  have hL := Lib.hid hl
  obtain ⟨Al, cl, rfl, l1, l2, -⟩ := hl.open_
  obtain ⟨Aa, na, ca, Ab, nb, cb, rfl⟩ := h.shape
  clear h hl
  obtain ⟨hT, X0_0, X0_1, X0_z⟩ := box_new w (.slice Aa na ca) (.slice Ab nb cb) 49
  replace hT := Lib.hid hT
  have hg := Lib.hid (fun W (hW : Below w.heap.size w W) => huge_any r _ W (hR.out.below hW (Nat.le_refl _)))
  have hA := Lib.hid (fun W (hW : Below w.heap.size w W) => awake_any W (hJ.below hW))
  clear hJ
  by_cases q1 : 100 < l.length
  · have q2 : (100 : Int) < (l.length : Int) := by omega
    go_enter Tryd.func6, Tryd.ntmps6
    go_wp2_with fail
    generalize w.alloc (.cells #[.slice Aa na ca, .slice Ab nb cb] 49) = X0 at *
    refine (hA.out X0 hT.out).mono ?_; rintro e V1 ⟨rfl, hN1⟩
    replace hT := Lib.hid (Below.then_ hT.out hN1)
    clear hN1
    go_wp2
    go_ret
    exact ⟨rfl, hT.out⟩
  · have q2 : ¬ (100 : Int) < (l.length : Int) := by omega
    cases e1 : hugeR r with
    | true =>
      rw [e1] at hg
      replace e1 := Lib.hid e1
      go_enter Tryd.func6, Tryd.ntmps6
      go_wp2_with fail
      generalize w.alloc (.cells #[.slice Aa na ca, .slice Ab nb cb] 49) = X0 at *
      refine (hg.out X0 hT.out).mono ?_; rintro e V1 ⟨rfl, hN1⟩
      replace hT := Lib.hid (Below.then_ hT.out hN1)
      clear hN1
      go_wp2_with fail
      refine (hA.out V1 hT.out).mono ?_; rintro e V2 ⟨rfl, hN2⟩
      replace hT := Lib.hid (Below.then_ hT.out hN2)
      clear hN2
      go_wp2
      go_ret
      exact ⟨rfl, hT.out⟩
    | false =>
      rw [e1] at hg
      obtain ⟨l1', l2'⟩ : r.by_.length ≤ 1000 ∧ r.start.length ≤ 1000 := by
        simp only [hugeR, Bool.or_eq_false_iff, decide_eq_false_iff_not] at e1; omega
      have hl1000 : l.length ≤ 1000 := by omega
      have ho := Lib.hid (fun W (hW : Below w.heap.size w W) => Own_any r _ W (hR.out.below hW (Nat.le_refl _)) l1' l2')
      have hd := Lib.hid (fun W (hW : Below w.heap.size w W) => Dup_any l _ W (hL.out.below hW (Nat.le_refl _)) (by omega))
      have t1 := Lib.hid (fun W (hW : Below w.heap.size w W) => refLeast_any l _ W (hL.out.below hW (Nat.le_refl _)))
      have t2 := Lib.hid (fun W (hW : Below w.heap.size w W) => refShort_any r _ W (hR.out.below hW (Nat.le_refl _)))
      have p1 := Lib.hid (fun u W hu => Least_any l u W hu)
      have p2 := Lib.hid (fun u W hu => Short_any r u W hu)
      have sR := Lib.hid (fun u W hu hW => (sameR_self r) ▸ Same_any r r u (.agg #[.slice Aa na ca, .slice Ab nb cb]) W hu (hR.out.below (B := w.heap.size) hW (Nat.le_refl _)))
      have qT := Lib.hid (fun v W h1 (hW : Below w.heap.size w W) => (Equal_any l l v (.slice Al l.length cl) W h1 (hL.out.below hW (Nat.le_refl _))))
      rw [decide_eq_true rfl] at qT
      have lF := Lib.hid (leastR_lens l)
      have lS := Lib.hid (shortR_lens r)
      generalize leastR l = F at *
      generalize shortR r = E at *
      obtain ⟨F, Fe⟩ := F
      obtain ⟨E, Ee⟩ := E
      clear hR hL
      replace e1 := Lib.hid e1
      have hl1 := Lib.hid l1
      have hlk := Lib.hid hl1000
      clear l1 hl1000
      replace l1' := Lib.hid l1'
      replace l2' := Lib.hid l2'
      generalize hN : l.length = N at *
      replace hN := Lib.hid hN
      go_enter Tryd.func6, Tryd.ntmps6
      go_wp2_with fail
      generalize w.alloc (.cells #[.slice Aa na ca, .slice Ab nb cb] 49) = X0 at *
      refine (hg.out X0 hT.out).mono ?_; rintro e A1 ⟨rfl, hN1⟩
      replace hT := Lib.hid (Below.then_ hT.out hN1)
      replace X0_0 := (hN1.cell (World.block_lt_of_cell? _ _ X0_0)).trans X0_0
      replace X0_1 := (hN1.cell (World.block_lt_of_cell? _ _ X0_1)).trans X0_1
      have z_A1 := hN1.size; clear hN1
      have B0 : Box2 A1 w.heap.size (.slice Aa na ca) (.slice Ab nb cb) := ⟨X0_0, X0_1⟩
      clear X0_0 X0_1
      go_upto_region 3 with fail
      go_cut [5, 6] (fun s5 s6 wx => ∃ g dv uA un uc uB um ud, s5 = dv ∧ s6 = .pointer (some ⟨g, 0, none⟩) ∧ LeastsCut w wx (.slice Aa na ca) (.slice Ab nb cb) g dv (.slice uA un uc) (.slice uB um ud) l r)
      case first =>
        have hz : w.heap.size < A1.heap.size := World.block_lt_of_cell? _ _ B0.1
        refine D_begin (fun w' => Box2 w' w.heap.size (.slice Aa na ca) (.slice Ab nb cb)) (fun _ => True) 6 (by kernel_rfl) ?_
        change wpAnyD _ _ _ _ _ _ _ _ _ _ A1.drew
        simp only [List.size_toArray, List.length_cons, List.length_nil, Nat.reduceAdd, Array.replicate_succ, Array.replicate_zero, List.push_toArray, List.append_toArray, List.nil_append, List.cons_append]
        have B_Wd : Box2 A1.drew w.heap.size (.slice Aa na ca) (.slice Ab nb cb) := B0
        have t_Wd := Lib.hid hT.out.drew
        have z_Wd : w.heap.size < A1.drew.heap.size := hz
        clear hT B0 hz
        generalize A1.drew = Wd at *
        refine D_take (i := 0) (v := ?_) rfl (by kernel_rfl) (by kernel_rfl) (by kernel_rfl) (by kernel_rfl) (fun _ _ _ h => h) (Or.inl ⟨by rfl, ?_⟩) B_Wd (fun _ => trivial) ?_
        rotate_left; · intro w1 hw1; obtain ⟨hw1, hw2⟩ := hw1; go_simp; try with_reducible rfl
        try simp only [Act.put, List.getElem_toArray, List.getElem_cons_zero, List.getElem_cons_succ, List.setIfInBounds_toArray, List.set_cons_zero, List.set_cons_succ]
        refine D_take (i := 2) (v := ?_) rfl (by kernel_rfl) (by kernel_rfl) (by kernel_rfl) (by kernel_rfl) (fun _ _ _ h => h) (Or.inl ⟨by rfl, ?_⟩) B_Wd (fun _ => trivial) ?_
        rotate_left; · intro w1 hw1; obtain ⟨hw1, hw2⟩ := hw1; go_simp; try with_reducible rfl
        try simp only [Act.put, List.getElem_toArray, List.getElem_cons_zero, List.getElem_cons_succ, List.setIfInBounds_toArray, List.set_cons_zero, List.set_cons_succ]
        refine D_two (i := 1) (j := 4) (by kernel_rfl) rfl rfl ?_ ?_
        · intro K hK
          rw [if_pos (by rfl)]
          go_wp2_with fail
          refine (hd.out Wd t_Wd.out).mono ?_; rintro e U1 ⟨⟨dv, rfl, hO⟩, hb⟩
          have t_U1 := Lib.hid (Below.then_ t_Wd.out hb)
          have z_U1 : w.heap.size < (U1).heap.size := Nat.lt_of_lt_of_le z_Wd hb.size
          have B_U1 := B_Wd.below hb
          have D_U1 := Lib.hid (hO.base (t_Wd.out.size))
          clear hO hb
          refine hK _ _ B_U1 (fun _ _ => trivial) ?_
          clear hK K
          try simp only [Act.put, Nat.zero_add, List.getElem_toArray, List.getElem_cons_zero, List.getElem_cons_succ, List.setIfInBounds_toArray, List.set_cons_zero, List.set_cons_succ]
          refine D_two (i := 3) (j := 4) (by kernel_rfl) rfl rfl ?_ ?_
          · intro K hK
            rw [if_pos (by rfl)]
            go_wp2_with fail
            refine (ho.out U1 t_U1.out).mono ?_; rintro e U2 ⟨⟨u, rfl, hO⟩, hb⟩
            have t_U2 := Lib.hid (Below.then_ t_U1.out hb)
            have z_U2 : w.heap.size < (U2).heap.size := Nat.lt_of_lt_of_le z_U1 hb.size
            have B_U2 := B_U1.below hb
            have D_U2 := Lib.hid (D_U1.out.below hb)
            obtain ⟨uA, un, uc, uB, um, ud, rfl⟩ := hO.shape
            have R_U2 := Lib.hid (own_kept hO (t_U1.out.size) (fun _ _ _ => rfl))
            clear hO hb
            refine hK _ _ B_U2 (fun _ _ => trivial) ?_
            clear hK K
            try simp only [Act.put, Nat.zero_add, List.getElem_toArray, List.getElem_cons_zero, List.getElem_cons_succ, List.setIfInBounds_toArray, List.set_cons_zero, List.set_cons_succ]
            refine D_one (i := 4) (by kernel_rfl) rfl ?_
            intro K hK
            rw [if_pos (by rfl)]
            go_simp
            have hb : Below U2.heap.size U2 (U2.alloc (.cells #[.slice none 0 0, .slice none 0 0] 49)) := (Below.refl _ _).alloc (Nat.le_refl _) _
            have t_U3 := Lib.hid (Below.then_ t_U2.out hb)
            have z_U3 : w.heap.size < (U2.alloc (.cells #[.slice none 0 0, .slice none 0 0] 49)).heap.size := Nat.lt_of_lt_of_le z_U2 hb.size
            have B_U3 := B_U2.below hb
            have D_U3 := Lib.hid (D_U2.out.below hb)
            have R_U3 := Lib.hid (R_U2.out.below hb)
            have N_U3 : Hid ((U2.alloc (.cells #[.slice none 0 0, .slice none 0 0] 49)).heap[U2.heap.size]? = some (.cells #[.slice none 0 0, .slice none 0 0] 49 (0, 0))) := Lib.hid (heap_alloc_new _ _)
            clear hb
            refine hK _ _ B_U3 (fun _ _ => trivial) ?_
            clear hK K
            try simp only [Act.put, Nat.zero_add, List.getElem_toArray, List.getElem_cons_zero, List.getElem_cons_succ, List.setIfInBounds_toArray, List.set_cons_zero, List.set_cons_succ]
            generalize hg_U3 : U2.alloc (.cells #[.slice none 0 0, .slice none 0 0] 49) = U3 at t_U3 z_U3 B_U3 D_U3 R_U3 N_U3 ⊢
            replace hg_U3 := Lib.hid hg_U3
            refine D_one (i := 5) (by kernel_rfl) rfl ?_
            intro K hK
            rw [if_pos (by rfl)]
            go_simp
            refine hK _ _ B_U3 (fun _ _ => trivial) ?_
            clear hK K
            try simp only [Act.put, Nat.zero_add, List.getElem_toArray, List.getElem_cons_zero, List.getElem_cons_succ, List.setIfInBounds_toArray, List.set_cons_zero, List.set_cons_succ]
            have gz : w.heap.size < U2.heap.size := z_U2
            obtain ⟨p0, p1, p2, p3⟩ := ret_cell N_U3.out
            refine D_one (i := 6) (by kernel_rfl) rfl ?_
            intro K hK
            rw [if_pos (by rfl)]
            go_simp
            have hcut : LeastsCut w ((U3.setCell ⟨U2.heap.size, 0, none⟩ (.slice uA un uc)).setCell ⟨U2.heap.size, 1, none⟩ (.slice uB um ud)) (.slice Aa na ca) (.slice Ab nb cb) U2.heap.size dv (.slice uA un uc) (.slice uB um ud) l r := leasts_cut t_U3.out D_U3.out R_U3.out B_U3 N_U3.out gz
            refine hK _ _ hcut.b0 (fun _ _ => trivial) ?_
            clear hK K
            try simp only [Act.put, Nat.zero_add, List.getElem_toArray, List.getElem_cons_zero, List.getElem_cons_succ, List.setIfInBounds_toArray, List.set_cons_zero, List.set_cons_succ]
            refine D_done (by kernel_rfl) ?_ _
            clear p0 p1 p2 p3
            go_wp2_with fail
            go_meet
            exact ⟨_, _, _, _, _, _, _, _, rfl, rfl, hcut⟩
          · intro K hK
            rw [if_pos (by rfl)]
            go_simp
            have hb : Below U1.heap.size U1 (U1.alloc (.cells #[.slice none 0 0, .slice none 0 0] 49)) := (Below.refl _ _).alloc (Nat.le_refl _) _
            have t_U4 := Lib.hid (Below.then_ t_U1.out hb)
            have z_U4 : w.heap.size < (U1.alloc (.cells #[.slice none 0 0, .slice none 0 0] 49)).heap.size := Nat.lt_of_lt_of_le z_U1 hb.size
            have B_U4 := B_U1.below hb
            have D_U4 := Lib.hid (D_U1.out.below hb)
            have N_U4 : Hid ((U1.alloc (.cells #[.slice none 0 0, .slice none 0 0] 49)).heap[U1.heap.size]? = some (.cells #[.slice none 0 0, .slice none 0 0] 49 (0, 0))) := Lib.hid (heap_alloc_new _ _)
            clear hb
            refine hK _ _ B_U4 (fun _ _ => trivial) ?_
            clear hK K
            try simp only [Act.put, Nat.zero_add, List.getElem_toArray, List.getElem_cons_zero, List.getElem_cons_succ, List.setIfInBounds_toArray, List.set_cons_zero, List.set_cons_succ]
            generalize hg_U4 : U1.alloc (.cells #[.slice none 0 0, .slice none 0 0] 49) = U4 at t_U4 z_U4 B_U4 D_U4 N_U4 ⊢
            replace hg_U4 := Lib.hid hg_U4
            refine D_one (i := 3) (by kernel_rfl) rfl ?_
            intro K hK
            rw [if_pos (by rfl)]
            go_wp2_with fail
            refine (ho.out U4 t_U4.out).mono ?_; rintro e U5 ⟨⟨u, rfl, hO⟩, hb⟩
            have t_U5 := Lib.hid (Below.then_ t_U4.out hb)
            have z_U5 : w.heap.size < (U5).heap.size := Nat.lt_of_lt_of_le z_U4 hb.size
            have B_U5 := B_U4.below hb
            have D_U5 := Lib.hid (D_U4.out.below hb)
            have N_U5 := Lib.hid ((hb.block _ (lt_of_block N_U4.out)).trans N_U4.out)
            obtain ⟨uA, un, uc, uB, um, ud, rfl⟩ := hO.shape
            have R_U5 := Lib.hid (own_kept hO (t_U4.out.size) (fun _ _ _ => rfl))
            clear hO hb
            refine hK _ _ B_U5 (fun _ _ => trivial) ?_
            clear hK K
            try simp only [Act.put, Nat.zero_add, List.getElem_toArray, List.getElem_cons_zero, List.getElem_cons_succ, List.setIfInBounds_toArray, List.set_cons_zero, List.set_cons_succ]
            refine D_one (i := 5) (by kernel_rfl) rfl ?_
            intro K hK
            rw [if_pos (by rfl)]
            go_simp
            refine hK _ _ B_U5 (fun _ _ => trivial) ?_
            clear hK K
            try simp only [Act.put, Nat.zero_add, List.getElem_toArray, List.getElem_cons_zero, List.getElem_cons_succ, List.setIfInBounds_toArray, List.set_cons_zero, List.set_cons_succ]
            have gz : w.heap.size < U1.heap.size := z_U1
            obtain ⟨p0, p1, p2, p3⟩ := ret_cell N_U5.out
            refine D_one (i := 6) (by kernel_rfl) rfl ?_
            intro K hK
            rw [if_pos (by rfl)]
            go_simp
            have hcut : LeastsCut w ((U5.setCell ⟨U1.heap.size, 0, none⟩ (.slice uA un uc)).setCell ⟨U1.heap.size, 1, none⟩ (.slice uB um ud)) (.slice Aa na ca) (.slice Ab nb cb) U1.heap.size dv (.slice uA un uc) (.slice uB um ud) l r := leasts_cut t_U5.out D_U5.out R_U5.out B_U5 N_U5.out gz
            refine hK _ _ hcut.b0 (fun _ _ => trivial) ?_
            clear hK K
            try simp only [Act.put, Nat.zero_add, List.getElem_toArray, List.getElem_cons_zero, List.getElem_cons_succ, List.setIfInBounds_toArray, List.set_cons_zero, List.set_cons_succ]
            refine D_done (by kernel_rfl) ?_ _
            clear p0 p1 p2 p3
            go_wp2_with fail
            go_meet
            exact ⟨_, _, _, _, _, _, _, _, rfl, rfl, hcut⟩
        · intro K hK
          rw [if_pos (by rfl)]
          go_simp
          have hb : Below Wd.heap.size Wd (Wd.alloc (.cells #[.slice none 0 0, .slice none 0 0] 49)) := (Below.refl _ _).alloc (Nat.le_refl _) _
          have t_U6 := Lib.hid (Below.then_ t_Wd.out hb)
          have z_U6 : w.heap.size < (Wd.alloc (.cells #[.slice none 0 0, .slice none 0 0] 49)).heap.size := Nat.lt_of_lt_of_le z_Wd hb.size
          have B_U6 := B_Wd.below hb
          have N_U6 : Hid ((Wd.alloc (.cells #[.slice none 0 0, .slice none 0 0] 49)).heap[Wd.heap.size]? = some (.cells #[.slice none 0 0, .slice none 0 0] 49 (0, 0))) := Lib.hid (heap_alloc_new _ _)
          clear hb
          refine hK _ _ B_U6 (fun _ _ => trivial) ?_
          clear hK K
          try simp only [Act.put, Nat.zero_add, List.getElem_toArray, List.getElem_cons_zero, List.getElem_cons_succ, List.setIfInBounds_toArray, List.set_cons_zero, List.set_cons_succ]
          generalize hg_U6 : Wd.alloc (.cells #[.slice none 0 0, .slice none 0 0] 49) = U6 at t_U6 z_U6 B_U6 N_U6 ⊢
          replace hg_U6 := Lib.hid hg_U6
          refine D_one (i := 1) (by kernel_rfl) rfl ?_
          intro K hK
          rw [if_pos (by rfl)]
          go_wp2_with fail
          refine (hd.out U6 t_U6.out).mono ?_; rintro e U7 ⟨⟨dv, rfl, hO⟩, hb⟩
          have t_U7 := Lib.hid (Below.then_ t_U6.out hb)
          have z_U7 : w.heap.size < (U7).heap.size := Nat.lt_of_lt_of_le z_U6 hb.size
          have B_U7 := B_U6.below hb
          have N_U7 := Lib.hid ((hb.block _ (lt_of_block N_U6.out)).trans N_U6.out)
          have D_U7 := Lib.hid (hO.base (t_U6.out.size))
          clear hO hb
          refine hK _ _ B_U7 (fun _ _ => trivial) ?_
          clear hK K
          try simp only [Act.put, Nat.zero_add, List.getElem_toArray, List.getElem_cons_zero, List.getElem_cons_succ, List.setIfInBounds_toArray, List.set_cons_zero, List.set_cons_succ]
          refine D_one (i := 3) (by kernel_rfl) rfl ?_
          intro K hK
          rw [if_pos (by rfl)]
          go_wp2_with fail
          refine (ho.out U7 t_U7.out).mono ?_; rintro e U8 ⟨⟨u, rfl, hO⟩, hb⟩
          have t_U8 := Lib.hid (Below.then_ t_U7.out hb)
          have z_U8 : w.heap.size < (U8).heap.size := Nat.lt_of_lt_of_le z_U7 hb.size
          have B_U8 := B_U7.below hb
          have D_U8 := Lib.hid (D_U7.out.below hb)
          have N_U8 := Lib.hid ((hb.block _ (lt_of_block N_U7.out)).trans N_U7.out)
          obtain ⟨uA, un, uc, uB, um, ud, rfl⟩ := hO.shape
          have R_U8 := Lib.hid (own_kept hO (t_U7.out.size) (fun _ _ _ => rfl))
          clear hO hb
          refine hK _ _ B_U8 (fun _ _ => trivial) ?_
          clear hK K
          try simp only [Act.put, Nat.zero_add, List.getElem_toArray, List.getElem_cons_zero, List.getElem_cons_succ, List.setIfInBounds_toArray, List.set_cons_zero, List.set_cons_succ]
          refine D_one (i := 5) (by kernel_rfl) rfl ?_
          intro K hK
          rw [if_pos (by rfl)]
          go_simp
          refine hK _ _ B_U8 (fun _ _ => trivial) ?_
          clear hK K
          try simp only [Act.put, Nat.zero_add, List.getElem_toArray, List.getElem_cons_zero, List.getElem_cons_succ, List.setIfInBounds_toArray, List.set_cons_zero, List.set_cons_succ]
          have gz : w.heap.size < Wd.heap.size := z_Wd
          obtain ⟨p0, p1, p2, p3⟩ := ret_cell N_U8.out
          refine D_one (i := 6) (by kernel_rfl) rfl ?_
          intro K hK
          rw [if_pos (by rfl)]
          go_simp
          have hcut : LeastsCut w ((U8.setCell ⟨Wd.heap.size, 0, none⟩ (.slice uA un uc)).setCell ⟨Wd.heap.size, 1, none⟩ (.slice uB um ud)) (.slice Aa na ca) (.slice Ab nb cb) Wd.heap.size dv (.slice uA un uc) (.slice uB um ud) l r := leasts_cut t_U8.out D_U8.out R_U8.out B_U8 N_U8.out gz
          refine hK _ _ hcut.b0 (fun _ _ => trivial) ?_
          clear hK K
          try simp only [Act.put, Nat.zero_add, List.getElem_toArray, List.getElem_cons_zero, List.getElem_cons_succ, List.setIfInBounds_toArray, List.set_cons_zero, List.set_cons_succ]
          refine D_done (by kernel_rfl) ?_ _
          clear p0 p1 p2 p3
          go_wp2_with fail
          go_meet
          exact ⟨_, _, _, _, _, _, _, _, rfl, rfl, hcut⟩
      case rest =>
        obtain ⟨G, dv, uA, un, uc, uB, um, ud, rfl, rfl, hcut⟩ := hcut
        rename World => A2
        obtain ⟨hT2, hD, hRr, B0', B1⟩ := hcut
        replace hT := Lib.hid hT2
        clear B0 hT2
        have ru := Lib.hid (hRr.rd l1'.out l2'.out)
        have rd := Lib.hid (hD.rd (by have := hlk.out; have := hN.out; omega))
        clear hD hRr ho hd hg
        obtain ⟨X0_0, X0_1⟩ := B0'
        obtain ⟨X1_0, X1_1⟩ := B1
        go_wp2_with fail
        refine (t1.out A2 hT.out).mono ?_; rintro e A4 ⟨fv, rfl, of, hN1⟩
        replace hT := Lib.hid (Below.then_ hT.out hN1)
        replace X0_0 := (hN1.cell (World.block_lt_of_cell? _ _ X0_0)).trans X0_0
        replace X0_1 := (hN1.cell (World.block_lt_of_cell? _ _ X0_1)).trans X0_1
        replace X1_0 := (hN1.cell (World.block_lt_of_cell? _ _ X1_0)).trans X1_0
        replace X1_1 := (hN1.cell (World.block_lt_of_cell? _ _ X1_1)).trans X1_1
        replace ru := Lib.hid (ru.out.below hN1 (Nat.le_refl _))
        replace rd := Lib.hid (rd.out.below hN1 (Nat.le_refl _))
        have z_A4 := hN1.size; clear hN1
        change OwnR _ _ _ F at of
        have rf := Lib.hid (of.rd (by have := lF.out.1; omega) (by have := lF.out.2; omega))
        obtain ⟨fA, fn, fc, fB, fm, fd, rfl⟩ := of.shape
        clear of
        obtain ⟨hN2, X2_0, X2_1, X2_z⟩ := box_new A4 (.slice fA fn fc) (.slice fB fm fd) 49
        replace hT := Lib.hid (Below.then_ hT.out hN2)
        replace X0_0 := (hN2.cell (World.block_lt_of_cell? _ _ X0_0)).trans X0_0
        replace X0_1 := (hN2.cell (World.block_lt_of_cell? _ _ X0_1)).trans X0_1
        replace X1_0 := (hN2.cell (World.block_lt_of_cell? _ _ X1_0)).trans X1_0
        replace X1_1 := (hN2.cell (World.block_lt_of_cell? _ _ X1_1)).trans X1_1
        replace ru := Lib.hid (ru.out.below hN2 (Nat.le_refl _))
        replace rd := Lib.hid (rd.out.below hN2 (Nat.le_refl _))
        replace rf := Lib.hid (rf.out.below hN2 (Nat.le_refl _))
        go_wp2_with fail
        generalize A4.alloc (.cells #[.slice fA fn fc, .slice fB fm fd] 49) = X2 at *
        clear hN2
        refine (t2.out X2 hT.out).mono ?_; rintro e A5 ⟨ev, rfl, oe, hN3⟩
        replace hT := Lib.hid (Below.then_ hT.out hN3)
        replace X0_0 := (hN3.cell (World.block_lt_of_cell? _ _ X0_0)).trans X0_0
        replace X0_1 := (hN3.cell (World.block_lt_of_cell? _ _ X0_1)).trans X0_1
        replace X1_0 := (hN3.cell (World.block_lt_of_cell? _ _ X1_0)).trans X1_0
        replace X1_1 := (hN3.cell (World.block_lt_of_cell? _ _ X1_1)).trans X1_1
        replace ru := Lib.hid (ru.out.below hN3 (Nat.le_refl _))
        replace rd := Lib.hid (rd.out.below hN3 (Nat.le_refl _))
        replace rf := Lib.hid (rf.out.below hN3 (Nat.le_refl _))
        replace X2_0 := (hN3.cell (World.block_lt_of_cell? _ _ X2_0)).trans X2_0
        replace X2_1 := (hN3.cell (World.block_lt_of_cell? _ _ X2_1)).trans X2_1
        have z_A5 := hN3.size; clear hN3
        change OwnR _ _ _ E at oe
        have re := Lib.hid (oe.rd (by have := lS.out.1; omega) (by have := lS.out.2; omega))
        obtain ⟨eA, en, ec, eB, em, ed, rfl⟩ := oe.shape
        clear oe t1 t2
        obtain ⟨hN4, P0_0, P0_1, P0_z⟩ := box_new A5 (.slice eA en ec) (.slice eB em ed) 49
        replace hT := Lib.hid (Below.then_ hT.out hN4)
        replace X0_0 := (hN4.cell (World.block_lt_of_cell? _ _ X0_0)).trans X0_0
        replace X0_1 := (hN4.cell (World.block_lt_of_cell? _ _ X0_1)).trans X0_1
        replace X1_0 := (hN4.cell (World.block_lt_of_cell? _ _ X1_0)).trans X1_0
        replace X1_1 := (hN4.cell (World.block_lt_of_cell? _ _ X1_1)).trans X1_1
        replace ru := Lib.hid (ru.out.below hN4 (Nat.le_refl _))
        replace rd := Lib.hid (rd.out.below hN4 (Nat.le_refl _))
        replace rf := Lib.hid (rf.out.below hN4 (Nat.le_refl _))
        replace X2_0 := (hN4.cell (World.block_lt_of_cell? _ _ X2_0)).trans X2_0
        replace X2_1 := (hN4.cell (World.block_lt_of_cell? _ _ X2_1)).trans X2_1
        replace re := Lib.hid (re.out.below hN4 (Nat.le_refl _))
        go_wp2_with fail
        generalize A5.alloc (.cells #[.slice eA en ec, .slice eB em ed] 49) = P0 at *
        clear hN4
        have hP := Lib.hid (Below.refl P0.heap.size P0)
        have ru' := Lib.hid (fun W (hW : Below P0.heap.size P0 W) => ru.out.below hW (Nat.le_refl _))
        have rd' := Lib.hid (fun W (hW : Below P0.heap.size P0 W) => rd.out.below hW (Nat.le_refl _))
        have rf' := Lib.hid (fun W (hW : Below P0.heap.size P0 W) => rf.out.below hW (Nat.le_refl _))
        have re' := Lib.hid (fun W (hW : Below P0.heap.size P0 W) => re.out.below hW (Nat.le_refl _))
        have hA' := Lib.hid (fun W (hW : Below P0.heap.size P0 W) => hA.out W (Below.then_ hT.out hW))
        have hT' := Lib.hid (fun W (hW : Below P0.heap.size P0 W) => Below.then_ hT.out hW)
        clear ru rd rf re hT hA
        have b1 : w.heap.size < P0.heap.size := World.block_lt_of_cell? _ _ X0_0
        have b2 : G < P0.heap.size := World.block_lt_of_cell? _ _ X1_0
        have b3 : A4.heap.size < P0.heap.size := World.block_lt_of_cell? _ _ X2_0
        have b4 : A5.heap.size < P0.heap.size := World.block_lt_of_cell? _ _ P0_0
        refine (p1.out _ P0 (rd'.out _ hP.out)).mono ?_; rintro e P1 ⟨sv, rfl, os, hN5⟩
        replace X0_0 := (hN5.cell (World.block_lt_of_cell? _ _ X0_0)).trans X0_0
        replace X0_1 := (hN5.cell (World.block_lt_of_cell? _ _ X0_1)).trans X0_1
        replace X1_0 := (hN5.cell (World.block_lt_of_cell? _ _ X1_0)).trans X1_0
        replace X1_1 := (hN5.cell (World.block_lt_of_cell? _ _ X1_1)).trans X1_1
        replace X2_0 := (hN5.cell (World.block_lt_of_cell? _ _ X2_0)).trans X2_0
        replace X2_1 := (hN5.cell (World.block_lt_of_cell? _ _ X2_1)).trans X2_1
        replace P0_0 := (hN5.cell (World.block_lt_of_cell? _ _ P0_0)).trans P0_0
        replace P0_1 := (hN5.cell (World.block_lt_of_cell? _ _ P0_1)).trans P0_1
        replace hP := Lib.hid (Below.then_ hP.out hN5)
        have z_P1 := hN5.size; clear hN5
        change OwnR _ _ _ F at os
        have rs := Lib.hid (os.rd (by have := lF.out.1; omega) (by have := lF.out.2; omega))
        have fs := Lib.hid (os.fresh (by have := lF.out.1; omega) (by have := lF.out.2; omega))
        obtain ⟨sA, sn, sc, sB, sm, sd, rfl⟩ := os.shape
        clear os
        obtain ⟨hN6, X3_0, X3_1, X3_z⟩ := box_new P1 (.slice sA sn sc) (.slice sB sm sd) 49
        replace X0_0 := (hN6.cell (World.block_lt_of_cell? _ _ X0_0)).trans X0_0
        replace X0_1 := (hN6.cell (World.block_lt_of_cell? _ _ X0_1)).trans X0_1
        replace X1_0 := (hN6.cell (World.block_lt_of_cell? _ _ X1_0)).trans X1_0
        replace X1_1 := (hN6.cell (World.block_lt_of_cell? _ _ X1_1)).trans X1_1
        replace X2_0 := (hN6.cell (World.block_lt_of_cell? _ _ X2_0)).trans X2_0
        replace X2_1 := (hN6.cell (World.block_lt_of_cell? _ _ X2_1)).trans X2_1
        replace P0_0 := (hN6.cell (World.block_lt_of_cell? _ _ P0_0)).trans P0_0
        replace P0_1 := (hN6.cell (World.block_lt_of_cell? _ _ P0_1)).trans P0_1
        replace hP := Lib.hid (Below.then_ hP.out hN6)
        replace rs := Lib.hid (rs.out.below hN6 (Nat.le_refl _))
        replace fs := Lib.hid (fs.out.kept hN6)
        go_wp2_with fail
        generalize P1.alloc (.cells #[.slice sA sn sc, .slice sB sm sd] 49) = X3 at *
        clear hN6
        have b5 : P1.heap.size < X3.heap.size := World.block_lt_of_cell? _ _ X3_0
        refine (p2.out _ X3 (ru'.out _ hP.out)).mono ?_; rintro e P2 ⟨xv, rfl, ox, hN7⟩
        replace X0_0 := (hN7.cell (World.block_lt_of_cell? _ _ X0_0)).trans X0_0
        replace X0_1 := (hN7.cell (World.block_lt_of_cell? _ _ X0_1)).trans X0_1
        replace X1_0 := (hN7.cell (World.block_lt_of_cell? _ _ X1_0)).trans X1_0
        replace X1_1 := (hN7.cell (World.block_lt_of_cell? _ _ X1_1)).trans X1_1
        replace X2_0 := (hN7.cell (World.block_lt_of_cell? _ _ X2_0)).trans X2_0
        replace X2_1 := (hN7.cell (World.block_lt_of_cell? _ _ X2_1)).trans X2_1
        replace P0_0 := (hN7.cell (World.block_lt_of_cell? _ _ P0_0)).trans P0_0
        replace P0_1 := (hN7.cell (World.block_lt_of_cell? _ _ P0_1)).trans P0_1
        replace hP := Lib.hid (Below.then_ hP.out hN7)
        replace rs := Lib.hid (rs.out.below hN7 (Nat.le_refl _))
        replace fs := Lib.hid (fs.out.kept hN7)
        replace X3_0 := (hN7.cell (World.block_lt_of_cell? _ _ X3_0)).trans X3_0
        replace X3_1 := (hN7.cell (World.block_lt_of_cell? _ _ X3_1)).trans X3_1
        have z_P2 := hN7.size; clear hN7
        change OwnR _ _ _ E at ox
        have rx := Lib.hid (ox.rd (by have := lS.out.1; omega) (by have := lS.out.2; omega))
        have fx := Lib.hid (ox.fresh (by have := lS.out.1; omega) (by have := lS.out.2; omega))
        obtain ⟨xA, xn, xc, xB, xm, xd, rfl⟩ := ox.shape
        clear ox p1 p2
        obtain ⟨hN8, P3_0, P3_1, P3_z⟩ := box_new P2 (.slice xA xn xc) (.slice xB xm xd) 49
        replace X0_0 := (hN8.cell (World.block_lt_of_cell? _ _ X0_0)).trans X0_0
        replace X0_1 := (hN8.cell (World.block_lt_of_cell? _ _ X0_1)).trans X0_1
        replace X1_0 := (hN8.cell (World.block_lt_of_cell? _ _ X1_0)).trans X1_0
        replace X1_1 := (hN8.cell (World.block_lt_of_cell? _ _ X1_1)).trans X1_1
        replace X2_0 := (hN8.cell (World.block_lt_of_cell? _ _ X2_0)).trans X2_0
        replace X2_1 := (hN8.cell (World.block_lt_of_cell? _ _ X2_1)).trans X2_1
        replace P0_0 := (hN8.cell (World.block_lt_of_cell? _ _ P0_0)).trans P0_0
        replace P0_1 := (hN8.cell (World.block_lt_of_cell? _ _ P0_1)).trans P0_1
        replace hP := Lib.hid (Below.then_ hP.out hN8)
        replace rs := Lib.hid (rs.out.below hN8 (Nat.le_refl _))
        replace fs := Lib.hid (fs.out.kept hN8)
        replace X3_0 := (hN8.cell (World.block_lt_of_cell? _ _ X3_0)).trans X3_0
        replace X3_1 := (hN8.cell (World.block_lt_of_cell? _ _ X3_1)).trans X3_1
        replace rx := Lib.hid (rx.out.below hN8 (Nat.le_refl _))
        replace fx := Lib.hid (fx.out.kept hN8)
        go_wp2_with fail
        generalize P2.alloc (.cells #[.slice xA xn xc, .slice xB xm xd] 49) = P3 at *
        clear hN8
        have b6 : P2.heap.size < P3.heap.size := World.block_lt_of_cell? _ _ P3_0
        have hr1 := Lib.hid (ruled_any F F (.agg #[.slice sA sn sc, .slice sB sm sd]) (.agg #[.slice fA fn fc, .slice fB fm fd]) Fe Fe P0.heap.size P1.heap.size P3 rs.out (rf'.out _ hP.out) fs.out (by omega))
        rw [decide_eq_true rfl, sameR_self] at hr1
        simp only [Bool.and_self] at hr1
        clear rs fs
        refine hr1.out.mono ?_; rintro e P4 ⟨rfl, hB4⟩
        have rx4 := Lib.hid (rx.out.btw fx.out hB4 (by omega))
        clear rx
        replace X0_0 := hB4.cell X0_0 (by simp only []; omega)
        replace X0_1 := hB4.cell X0_1 (by simp only []; omega)
        replace X1_0 := hB4.cell X1_0 (by simp only []; omega)
        replace X1_1 := hB4.cell X1_1 (by simp only []; omega)
        replace X2_0 := hB4.cell X2_0 (by simp only []; omega)
        replace X2_1 := hB4.cell X2_1 (by simp only []; omega)
        replace P0_0 := hB4.cell P0_0 (by simp only []; omega)
        replace P0_1 := hB4.cell P0_1 (by simp only []; omega)
        replace hP := Lib.hid (hP.out.trans ((hB4.below (by omega)).mono (by omega)))
        replace X3_0 := hB4.cell X3_0 (by simp only []; omega)
        replace X3_1 := hB4.cell X3_1 (by simp only []; omega)
        replace fx := Lib.hid (fx.out.btw hB4 (by omega))
        replace P3_0 := hB4.cell P3_0 (by simp only []; omega)
        replace P3_1 := hB4.cell P3_1 (by simp only []; omega)
        have z_P4 := hB4.size; clear hB4
        go_wp2_with fail
        have hr2 := Lib.hid (ruled_any E E (.agg #[.slice xA xn xc, .slice xB xm xd]) (.agg #[.slice eA en ec, .slice eB em ed]) Ee Ee X3.heap.size P2.heap.size P4 rx4.out (re'.out _ hP.out) fx.out (by omega))
        rw [decide_eq_true rfl, sameR_self] at hr2
        simp only [Bool.and_self] at hr2
        clear fx
        refine hr2.out.mono ?_; rintro e P5 ⟨rfl, hB5⟩
        replace X0_0 := hB5.cell X0_0 (by simp only []; omega)
        replace X0_1 := hB5.cell X0_1 (by simp only []; omega)
        replace X1_0 := hB5.cell X1_0 (by simp only []; omega)
        replace X1_1 := hB5.cell X1_1 (by simp only []; omega)
        replace X2_0 := hB5.cell X2_0 (by simp only []; omega)
        replace X2_1 := hB5.cell X2_1 (by simp only []; omega)
        replace P0_0 := hB5.cell P0_0 (by simp only []; omega)
        replace P0_1 := hB5.cell P0_1 (by simp only []; omega)
        replace hP := Lib.hid (hP.out.trans ((hB5.below (by omega)).mono (by omega)))
        replace X3_0 := hB5.cell X3_0 (by simp only []; omega)
        replace X3_1 := hB5.cell X3_1 (by simp only []; omega)
        replace P3_0 := hB5.cell P3_0 (by simp only []; omega)
        replace P3_1 := hB5.cell P3_1 (by simp only []; omega)
        have z_P5 := hB5.size; clear hB5
        go_wp2_with fail
        refine (qT.out _ P5 (rd'.out _ hP.out) (hT'.out _ hP.out)).mono ?_; rintro e V9 ⟨rfl, hN9⟩
        replace X0_0 := (hN9.cell (World.block_lt_of_cell? _ _ X0_0)).trans X0_0
        replace X0_1 := (hN9.cell (World.block_lt_of_cell? _ _ X0_1)).trans X0_1
        replace X1_0 := (hN9.cell (World.block_lt_of_cell? _ _ X1_0)).trans X1_0
        replace X1_1 := (hN9.cell (World.block_lt_of_cell? _ _ X1_1)).trans X1_1
        replace X2_0 := (hN9.cell (World.block_lt_of_cell? _ _ X2_0)).trans X2_0
        replace X2_1 := (hN9.cell (World.block_lt_of_cell? _ _ X2_1)).trans X2_1
        replace P0_0 := (hN9.cell (World.block_lt_of_cell? _ _ P0_0)).trans P0_0
        replace P0_1 := (hN9.cell (World.block_lt_of_cell? _ _ P0_1)).trans P0_1
        replace hP := Lib.hid (Below.then_ hP.out hN9)
        replace X3_0 := (hN9.cell (World.block_lt_of_cell? _ _ X3_0)).trans X3_0
        replace X3_1 := (hN9.cell (World.block_lt_of_cell? _ _ X3_1)).trans X3_1
        replace P3_0 := (hN9.cell (World.block_lt_of_cell? _ _ P3_0)).trans P3_0
        replace P3_1 := (hN9.cell (World.block_lt_of_cell? _ _ P3_1)).trans P3_1
        clear hN9
        go_wp2_with fail
        refine (sR.out _ V9 (ru'.out _ hP.out) (hT'.out _ hP.out)).mono ?_; rintro e V10 ⟨rfl, hN10⟩
        replace X0_0 := (hN10.cell (World.block_lt_of_cell? _ _ X0_0)).trans X0_0
        replace X0_1 := (hN10.cell (World.block_lt_of_cell? _ _ X0_1)).trans X0_1
        replace X1_0 := (hN10.cell (World.block_lt_of_cell? _ _ X1_0)).trans X1_0
        replace X1_1 := (hN10.cell (World.block_lt_of_cell? _ _ X1_1)).trans X1_1
        replace X2_0 := (hN10.cell (World.block_lt_of_cell? _ _ X2_0)).trans X2_0
        replace X2_1 := (hN10.cell (World.block_lt_of_cell? _ _ X2_1)).trans X2_1
        replace P0_0 := (hN10.cell (World.block_lt_of_cell? _ _ P0_0)).trans P0_0
        replace P0_1 := (hN10.cell (World.block_lt_of_cell? _ _ P0_1)).trans P0_1
        replace hP := Lib.hid (Below.then_ hP.out hN10)
        replace X3_0 := (hN10.cell (World.block_lt_of_cell? _ _ X3_0)).trans X3_0
        replace X3_1 := (hN10.cell (World.block_lt_of_cell? _ _ X3_1)).trans X3_1
        replace P3_0 := (hN10.cell (World.block_lt_of_cell? _ _ P3_0)).trans P3_0
        replace P3_1 := (hN10.cell (World.block_lt_of_cell? _ _ P3_1)).trans P3_1
        clear hN10
        go_wp2_with fail
        refine (hA'.out V10 hP.out).mono ?_; rintro e V11 ⟨rfl, hN11⟩
        replace X0_0 := (hN11.cell (World.block_lt_of_cell? _ _ X0_0)).trans X0_0
        replace X0_1 := (hN11.cell (World.block_lt_of_cell? _ _ X0_1)).trans X0_1
        replace X1_0 := (hN11.cell (World.block_lt_of_cell? _ _ X1_0)).trans X1_0
        replace X1_1 := (hN11.cell (World.block_lt_of_cell? _ _ X1_1)).trans X1_1
        replace X2_0 := (hN11.cell (World.block_lt_of_cell? _ _ X2_0)).trans X2_0
        replace X2_1 := (hN11.cell (World.block_lt_of_cell? _ _ X2_1)).trans X2_1
        replace P0_0 := (hN11.cell (World.block_lt_of_cell? _ _ P0_0)).trans P0_0
        replace P0_1 := (hN11.cell (World.block_lt_of_cell? _ _ P0_1)).trans P0_1
        replace hP := Lib.hid (Below.then_ hP.out hN11)
        replace X3_0 := (hN11.cell (World.block_lt_of_cell? _ _ X3_0)).trans X3_0
        replace X3_1 := (hN11.cell (World.block_lt_of_cell? _ _ X3_1)).trans X3_1
        replace P3_0 := (hN11.cell (World.block_lt_of_cell? _ _ P3_0)).trans P3_0
        replace P3_1 := (hN11.cell (World.block_lt_of_cell? _ _ P3_1)).trans P3_1
        clear hN11
        go_wp2
        go_ret
        exact ⟨rfl, hT'.out _ hP.out⟩
end Go.Proofs.YtfljkcmijnhgkaaDoor
