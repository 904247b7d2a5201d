/- terms, first: their contracts. -/
import Derived.Test.YtfljkcmijnhgkaaDoorTerms
import Derived.Maps.OwnIn
namespace Go.Proofs.YtfljkcmijnhgkaaDoor
open Go.RowKit Go.Shelf
set_option linter.unusedSimpArgs false
attribute [local go_sem] Oper.semAt_some

set_option maxHeartbeats 800000 in
theorem terms_any (a b : Value) (g : Nat) (w : World) (A1 A2 : Option Addr) (n1 n2 d1 d2 : Nat) (ha : a = .slice A1 n1 d1) (hb : b = .slice A2 n2 d2) :
    Calls Tryd.prog 145 #[.agg #[a, b, .func (.func 144) #[] #[.pointer (some ⟨g, 0, none⟩)]]] w fun e w' => e = .returned (.func (.func 153) #[] #[.pointer (some ⟨w.heap.size, 0, none⟩)]) ∧ w' = w.alloc (.cells #[a, b, .func (.func 144) #[] #[.pointer (some ⟨g, 0, none⟩)]] 110) := by
  subst ha hb
  go_enter Tryd.func145, Tryd.ntmps145
  go_wp2
  go_ret
  exact ⟨rfl, rfl⟩
theorem four_push (A : Array Obj) (a b c d : Obj) : ((((A.push a).push b).push c).push d)[A.size + 1]? = some b ∧ ((((A.push a).push b).push c).push d)[A.size + 2]? = some c ∧ ((((A.push a).push b).push c).push d)[A.size + 3]? = some d := by
  refine ⟨?_, ?_, ?_⟩
  · rw [Array.getElem?_push, if_neg (by simp), Array.getElem?_push, if_neg (by simp), Array.getElem?_push, if_pos (by simp)]
  · rw [Array.getElem?_push, if_neg (by simp), Array.getElem?_push, if_pos (by simp)]
  · rw [Array.getElem?_push, if_pos (by simp)]
theorem four (w : World) (a b c d : Obj) : ((((w.alloc a).alloc b).alloc c).alloc d).heap[w.heap.size + 1]? = some b ∧ ((((w.alloc a).alloc b).alloc c).alloc d).heap[w.heap.size + 2]? = some c ∧ ((((w.alloc a).alloc b).alloc c).alloc d).heap[w.heap.size + 3]? = some d := four_push w.heap a b c d
/-- What holds between two rounds of first: h blocks lay when the call began, hl when the loop began. -/
structure FirstI (n h hl : Nat) (w : World) (pre : List Int) (W : World) : Prop where
  low : Below h w W
  num : W.heap[h + 1]? = some (.cells #[.int .i64 n] 3 (0, 0))
  out : ∃ u, W.heap[h + 3]? = some (.cells #[u] 23 (0, 0)) ∧ OwnI W h u pre ∧ ∀ b, u.ownBlock = some b → b = h + 2 ∨ hl + 3 ≤ b
theorem FirstI.kept {n h hl : Nat} {w A B : World} {pre : List Int} {row : Option Nat} (H : FirstI n h hl w pre A) (hg : A.grownBy B row) (hr : ∀ k, row = some k → hl ≤ k ∧ k < hl + 3) (hh : h + 5 = hl) (hw : w.heap.size = h) : FirstI n h hl w pre B := by
  obtain ⟨h1, h2, u, h3, h4, h5⟩ := H
  have ne : ∀ k, k < hl → some k ≠ row := fun k hk e => by have := hr k e.symm; omega
  refine ⟨h1.grown hg (by have := h1.size; omega) (fun k e => by have := hr k e; omega), (hg.block _ (Array.getElem?_eq_some_iff.1 h2).1 (ne _ (by omega))).trans h2, u, (hg.block _ (Array.getElem?_eq_some_iff.1 h3).1 (ne _ (by omega))).trans h3, ?_, h5⟩
  refine h4.kept hg ?_
  cases hb : u.ownBlock with
  | none => exact .inl rfl
  | some b =>
    refine .inr fun e => ?_
    have := hr b e.symm
    rcases h5 b hb with h | h <;> omega
theorem FirstI.step {n h hl : Nat} {w W w1 : World} {pre : List Int} {v : Int} {A3 : Option Addr} {c3 g' cap' : Nat} (hlow : Below h w W) (hnum : W.heap[h + 1]? = some (.cells #[.int .i64 n] 3 (0, 0)))
    (hbox : W.heap[h + 3]? = some (.cells #[.slice A3 pre.length c3] 23 (0, 0))) (hub : ∀ b, (Value.slice A3 pre.length c3).ownBlock = some b → b = h + 2 ∨ hl + 3 ≤ b) (hsz : hl + 3 ≤ W.heap.size) (hh : h + 5 = hl)
    (hown1 : w1.ownsRow h 3 1 (.slice (some ⟨g', 0, none⟩) (pre.length + 1) cap') (pre.length + 1) (ints pre ++ [.int .i64 v])) (hgrow : (W.alloc (.cells #[.int .i64 v] 3)).grownBy w1 (Value.slice A3 pre.length c3).ownBlock)
    (hat : (Value.slice (some ⟨g', 0, none⟩) (pre.length + 1) cap').ownBlock = (Value.slice A3 pre.length c3).ownBlock ∨ (Value.slice (some ⟨g', 0, none⟩) (pre.length + 1) cap').ownBlock = some (W.alloc (.cells #[.int .i64 v] 3)).heap.size) :
    FirstI n h hl w (pre ++ [v]) (w1.setCell ⟨h + 1 + 1 + 1, 0, none⟩ (.slice (some ⟨g', 0, none⟩) (pre.length + 1) cap')) ∧
      ∀ k, k < W.heap.size → k ≠ h + 3 → some k ≠ (Value.slice A3 pre.length c3).ownBlock → (w1.setCell ⟨h + 1 + 1 + 1, 0, none⟩ (.slice (some ⟨g', 0, none⟩) (pre.length + 1) cap')).heap[k]? = W.heap[k]? := by
  have hkeep : ∀ k, k < W.heap.size → k ≠ h + 3 → some k ≠ (Value.slice A3 pre.length c3).ownBlock → (w1.setCell ⟨h + 1 + 1 + 1, 0, none⟩ (.slice (some ⟨g', 0, none⟩) (pre.length + 1) cap')).heap[k]? = W.heap[k]? := fun k h1 h2 h3 =>
    ((Below.heap_setCell _ _ _ _ (by show k ≠ h + 3; exact h2)).trans (hgrow.block k (by simp; omega) h3)).trans (Below.heap_alloc _ _ _ h1)
  have hg' : g' = h + 2 ∨ hl + 3 ≤ g' := by
    rcases hat with e | e
    · exact hub g' (by rw [← e]; rfl)
    · have : g' = W.heap.size + 1 := by simpa [Value.ownBlock] using e
      omega
  have hne : ∀ k, k < hl → k ≠ h + 2 → some k ≠ (Value.slice A3 pre.length c3).ownBlock := fun k h1 h2 e => by rcases hub k e.symm with h | h <;> omega
  have hbx3 := (hgrow.block (h + 3) (by simp; omega) (hne _ (by omega) (by omega))).trans ((Below.heap_alloc W _ (h + 3) (by omega)).trans hbox)
  have hs : w1.heap.size ≤ (w1.setCell ⟨h + 1 + 1 + 1, 0, none⟩ (.slice (some ⟨g', 0, none⟩) (pre.length + 1) cap')).heap.size := by simp [World.setCell]
  refine ⟨⟨⟨?_, ?_, ?_, ?_, fun k hk => ?_⟩, (hkeep _ (by omega) (by omega) (hne _ (by omega) (by omega))).trans hnum, _, heap_set1 _ hbx3, ?_, fun b hb => ?_⟩, hkeep⟩
  · exact hgrow.os.trans hlow.os
  · exact hgrow.tape.trans hlow.tape
  · exact hgrow.output.trans hlow.output
  · have h1 := hgrow.size
    have h2 := hlow.size
    rw [World.size_alloc] at h1
    omega
  · exact (hkeep k (by omega) (by omega) (hne k (by omega) (by omega))).trans (hlow.block k hk)
  · unfold OwnI
    rw [List.length_append, ints_append]
    exact hown1.kept ⟨rfl, rfl, rfl, hs, fun k _ hk => Below.heap_setCell _ _ _ _ (fun e => hk (by rw [e]))⟩ (.inr (by show some g' ≠ some (h + 1 + 1 + 1); intro e; have := Option.some.inj e; omega))
  · have : g' = b := by simpa [Value.ownBlock] using hb
    omega
set_option maxRecDepth 100000 in
set_option maxHeartbeats 3200000 in
theorem first_any (r : Rule) (n : Nat) (v a b : Value) (g : Nat) (w : World) (hr : rightR r = 0) (hL : LineV w v r a b g) (hn : n ≤ 1000) :
    Calls Tryd.prog 112 #[v, .int .i64 n] w fun e w' => (∃ u, e = .returned u ∧ OwnI w' w.heap.size u (firstL r n)) ∧ Below w.heap.size w w' := by
  obtain ⟨rfl, ra, rb, hg⟩ := hL
  obtain ⟨A1, d1, e1, -⟩ := ra.open_
  obtain ⟨A2, d2, e2, -⟩ := rb.open_
  have htm := fun W => terms_any a b g W A1 A2 _ _ d1 d2 e1 e2
  have hit := Lib.hid (fun (N x : Nat) W hB hx hx2 hN hN2 => terms_1 r N x g a b w W hr ra rb hg hB hx hx2 hN hN2)
  subst e1 e2
  generalize r.by_.length = n1 at *
  generalize r.start.length = n2 at *
  replace htm := Lib.hid htm
  have h1 : ∀ (m : Int), ∃ W, (((w.alloc (.cells #[.slice A1 n1 d1, .slice A2 n2 d2, .func (.func 144) #[] #[.pointer (some ⟨g, 0, none⟩)]] 110)).alloc (.cells #[.int .i64 m] 3)).alloc (.cells #[] 3)).alloc (.cells #[.slice (some ⟨w.heap.size + 1 + 1, 0, none⟩) 0 0] 23) = W ∧ W.heap.size = w.heap.size + 4 ∧ Below w.heap.size w W ∧
      W.heap[w.heap.size + 1]? = some (.cells #[.int .i64 m] 3 (0, 0)) ∧ W.heap[w.heap.size + 2]? = some (.cells #[] 3 (0, 0)) ∧ W.heap[w.heap.size + 3]? = some (.cells #[.slice (some ⟨w.heap.size + 1 + 1, 0, none⟩) 0 0] 23 (0, 0)) := by
    intro m
    obtain ⟨f1, f2, f3⟩ := four w (.cells #[.slice A1 n1 d1, .slice A2 n2 d2, .func (.func 144) #[] #[.pointer (some ⟨g, 0, none⟩)]] 110) (.cells #[.int .i64 m] 3) (.cells #[] 3) (.cells #[.slice (some ⟨w.heap.size + 1 + 1, 0, none⟩) 0 0] 23)
    exact ⟨_, rfl, by simp, ((((Below.refl _ w).alloc (Nat.le_refl _) _).alloc (by simp) _).alloc (by simp; omega) _).alloc (by simp; omega) _, f1, f2, f3⟩
  by_cases h0 : n = 0
  · subst h0
    obtain ⟨W, hW, hs, hB, -, h2, -⟩ := h1 ((0 : Nat) : Int)
    go_enter Tryd.func112, Tryd.ntmps112
    go_wp2
    refine bodyPost_ret (results_tmp rfl _ _ _) rfl ?_
    have hW' : _ = W := hW
    rw [show ((0 : Nat) : Int) = 0 from rfl] at hW'
    rw [hW']
    refine ⟨⟨_, rfl, ?_⟩, hB⟩
    refine ⟨rfl, .inr ⟨w.heap.size + 2, 0, #[], rfl, by omega, h2, Nat.le_refl _, by decide, rfl, rfl⟩⟩
  · obtain ⟨W0, hW, hs, hB, hnb, hab, hob⟩ := h1 (n : Int)
    clear h1
    refine (callsIn_wide (n := 9)).1 ?_
    refine callsIn_of_wp_marks Tryd.func112 rfl trivial ?_ rfl
    simp only [Tryd.ntmps112, List.size_toArray, List.length_cons, List.length_nil, Nat.reduceAdd, Nat.reduceSub, Array.replicate_succ, Array.replicate_zero, List.push_toArray, List.append_toArray, List.nil_append, List.cons_append]
    have hne : ((n : Int) == 0) = false := by rw [beq_eq_false_iff_ne]; omega
    replace hB := Lib.hid hB
    replace hnb := Lib.hid hnb
    replace hab := Lib.hid hab
    replace hob := Lib.hid hob
    replace hg := Lib.hid hg
    replace hW := Lib.hid hW
    clear ra rb
    gi_wp2_with fail
    rw [hW.out]
    refine ⟨trivial, ?_⟩
    refine (callsIn_wide.2 (htm.out _)).mono ?_; rintro e W3 ⟨rfl, rfl⟩
    rw [hs]
    have hbl : Below W0.heap.size W0 (W0.alloc (.cells #[.slice A1 n1 d1, .slice A2 n2 d2, .func (.func 144) #[] #[.pointer (some ⟨g, 0, none⟩)]] 110)) := (Below.refl _ _).alloc (Nat.le_refl _) _
    have hxb : (W0.alloc (.cells #[.slice A1 n1 d1, .slice A2 n2 d2, .func (.func 144) #[] #[.pointer (some ⟨g, 0, none⟩)]] 110)).heap[w.heap.size + 4]? = some (.cells #[.slice A1 n1 d1, .slice A2 n2 d2, .func (.func 144) #[] #[.pointer (some ⟨g, 0, none⟩)]] 110 (0, 0)) := by rw [← hs]; exact heap_alloc_new _ _
    have hs1 : (W0.alloc (.cells #[.slice A1 n1 d1, .slice A2 n2 d2, .func (.func 144) #[] #[.pointer (some ⟨g, 0, none⟩)]] 110)).heap.size = w.heap.size + 5 := by simp; omega
    generalize W0.alloc (.cells #[.slice A1 n1 d1, .slice A2 n2 d2, .func (.func 144) #[] #[.pointer (some ⟨g, 0, none⟩)]] 110) = W1 at *
    have hI0 : FirstI n w.heap.size (w.heap.size + 5) w [] W1 :=
      ⟨Below.then_ hB.out hbl, (hbl.block _ (by omega)).trans hnb.out, _, (hbl.block _ (by omega)).trans hob.out, ⟨rfl, .inr ⟨w.heap.size + 2, 0, #[], rfl, by omega, (hbl.block _ (by omega)).trans hab.out, Nat.le_refl _, by decide, rfl, rfl⟩⟩, fun b hb => .inl (by simpa [Value.ownBlock] using hb.symm)⟩
    replace hI0 := Lib.hid hI0
    replace hxb := Lib.hid hxb
    replace hbl := Lib.hid hbl
    obtain ⟨i0, hi0, hz0, hz1, hz2⟩ := info_parts infoI
    gi_wp2
    refine wpIn_range_upTo (gf := 153) (lb := #[.pointer (some ⟨w.heap.size + 4, 0, none⟩)]) (T := fun pre => ∃ k, pre = firstL r k) (N := n) (n₀ := w.heap.size) (x := w.heap.size + 4) rfl (enters_of Tryd.func153 (by kernel_rfl) rfl)
      ?hseq (by omega) (by omega) (FirstI n w.heap.size (w.heap.size + 5) w) (fun pre W => FirstI n w.heap.size (w.heap.size + 5) w pre W ∧ pre.length = n) ?hI ?hIx hI0.out
      (fun v => { tmps := #[.agg #[.slice A1 n1 d1, .slice A2 n2 d2, .func (.func 144) #[] #[.pointer (some ⟨g, 0, none⟩)]], .int .i64 n, .pointer (some ⟨w.heap.size, 0, none⟩), .pointer (some ⟨w.heap.size + 1, 0, none⟩), .slice none 0 0, .pointer (some ⟨w.heap.size + 1 + 1 + 1, 0, none⟩), .int .i64 v, .slice (some ⟨w.heap.size + 1 + 1, 0, none⟩) 0 0, .int .i64 n, .bool false, undef, .agg #[.slice A1 n1 d1, .slice A2 n2 d2, .func (.func 144) #[] #[.pointer (some ⟨g, 0, none⟩)]], .func (.func 153) #[] #[.pointer (some ⟨w.heap.size + 4, 0, none⟩)], .int .i64 v, undef, undef, undef, undef, undef, undef, undef, undef, undef], defers := [] }) 0 ?assign ?body ?stop
    case hseq =>
      intro W hsW hBW
      exact hit.out n _ W (Below.trans (Below.then_ hB.out (by have := hI0.out.low; exact hbl.out)) (hBW.mono (by omega))) ((hBW.block _ (by omega)).trans hxb.out) (by omega) (by omega) hn
    case hI =>
      intro s A B row hs hg hr
      exact hs.kept hg (fun k e => by have := hr k e; omega) rfl rfl
    case hIx =>
      intro s A B row hs hg hr
      exact ⟨hs.1.kept hg (fun k e => by have := hr k e; omega) rfl rfl, hs.2⟩
    case assign =>
      intro l v W K hK
      gi_wp2
      exact hK
    case body =>
      rintro l pre v W ⟨hlow, hnum, u, hbox, hO, hub⟩ hlen hsz
      have hc3 : W.cell? ⟨w.heap.size + 1 + 1 + 1, 0, none⟩ = some u := by unfold World.cell?; rw [show w.heap.size + 1 + 1 + 1 = w.heap.size + 3 from rfl, hbox]; rfl
      have hc1 : W.cell? ⟨w.heap.size + 1, 0, none⟩ = some (.int .i64 n) := by unfold World.cell?; rw [hnum]; rfl
      have hOw := hO
      unfold OwnI at hOw
      obtain ⟨A3, c3, rfl⟩ := own_form hOw
      replace hOw := Lib.hid hOw
      replace hO := Lib.hid hO
      replace hnum := Lib.hid hnum
      replace hbox := Lib.hid hbox
      replace hub := Lib.hid hub
      replace hlow := Lib.hid hlow
      have hszW := hlow.out.size
      have hb3 : some (w.heap.size + 3) ≠ (Value.slice A3 pre.length c3).ownBlock := fun e => by rcases hub.out _ e.symm with h | h <;> omega
      have hb1 : some (w.heap.size + 1) ≠ (Value.slice A3 pre.length c3).ownBlock := fun e => by rcases hub.out _ e.symm with h | h <;> omega
      have ls : w.heap.size + 3 < W.heap.size := by omega
      have ls1 : w.heap.size + 1 < W.heap.size := by omega
      have hx3 := (World.cell?_of_block (w' := W.alloc (.cells #[.int .i64 v] 3)) (a := ⟨w.heap.size + 1 + 1 + 1, 0, none⟩) (Below.heap_alloc W _ (w.heap.size + 1 + 1 + 1) ls)).trans hc3
      have hx1 := (World.cell?_of_block (w' := W.alloc (.cells #[.int .i64 v] 3)) (a := ⟨w.heap.size + 1, 0, none⟩) (Below.heap_alloc W _ (w.heap.size + 1) ls1)).trans hc1
      have hxf : (W.alloc (.cells #[.int .i64 v] 3)).frozen? ⟨w.heap.size + 1 + 1 + 1, 0, none⟩ = false := (World.frozen?_of_block (a := ⟨w.heap.size + 1 + 1 + 1, 0, none⟩) (Below.heap_alloc W _ (w.heap.size + 1 + 1 + 1) ls)).trans (by unfold World.frozen?; rw [show w.heap.size + 1 + 1 + 1 = w.heap.size + 3 from rfl, hbox.out]; rfl)
      by_cases hend : pre.length + 1 = n
      · have htest : (((pre.length : Int) + 1) == (n : Int)) = true := by first | (rw [beq_iff_eq]; omega) | (rw [beq_eq_false_iff_ne]; omega)
        replace hend := Lib.hid hend
        gi_wp2_with (gi_at_builtin; (refine wpListIn_append_own_at _ rfl _ _ 23 rfl w.heap.size 3 i0 _ 1 8 Tryd.underlying23 hi0 hz0 hz1 hz2 rfl (by omega) (.slice A3 pre.length c3) pre.length (ints pre) rfl (hOw.out.alloc _) ⟨W.heap.size, 0, none⟩ 1 1 [.int .i64 v] rfl rfl (World.news_of_block (cs := #[.int .i64 v]) (t := 3) (fr := (0, 0)) (heap_alloc_new W _)) (by simp [Value.oneCell']) (by unfold maxLen; omega) (by omega) (by simp; omega) ?_); intro v' w1 hown1 hgrow _ hat; obtain ⟨g', cap', rfl⟩ := ownsRow_succ hown1; have hd3 := (hgrow.cell_far ⟨w.heap.size + 1 + 1 + 1, 0, none⟩ (by simp; omega) hb3).trans hx3; have hf3 := (hgrow.frozen_far ⟨w.heap.size + 1 + 1 + 1, 0, none⟩ (by simp; omega) hb3).trans hxf; have hd1 := (hgrow.cell_far ⟨w.heap.size + 1, 0, none⟩ (by simp; omega) hb1).trans hx1)
        obtain ⟨hFI, hkeep⟩ := FirstI.step hlow.out hnum.out hbox.out hub.out (by omega) rfl hown1 hgrow hat
        have hbl2 : ∀ k, W1.heap.size ≤ k → k < W1.heap.size + 3 → (w1.setCell ⟨w.heap.size + 1 + 1 + 1, 0, none⟩ (.slice (some ⟨g', 0, none⟩) (pre.length + 1) cap')).heap[k]? = W.heap[k]? := fun k h1 h2 =>
          hkeep k (by omega) (by omega) (fun e => by rcases hub.out k e.symm with h | h <;> omega)
        first | exact ⟨rfl, fun k h1 h2 => hbl2 k h1 (by omega), hFI, by rw [List.length_append]; exact hend.out⟩ | exact ⟨fun k h1 h2 => hbl2 k h1 (by omega), ⟨⟨hgrow.os, hgrow.tape, hgrow.output, by have := hgrow.size; rw [World.size_alloc] at this; simp [World.setCell]; omega, fun k hk => hkeep k (by omega) (by omega) (fun e => by rcases hub.out k e.symm with h | h <;> omega)⟩, hkeep _ (by omega) (by omega) (fun e => by rcases hub.out _ e.symm with h | h <;> omega), hbl2 _ (by omega) (by omega)⟩, hFI, by have := hend.out; omega⟩
      · have htest : (((pre.length : Int) + 1) == (n : Int)) = false := by first | (rw [beq_iff_eq]; omega) | (rw [beq_eq_false_iff_ne]; omega)
        replace hend := Lib.hid hend
        gi_wp2_with (gi_at_builtin; (refine wpListIn_append_own_at _ rfl _ _ 23 rfl w.heap.size 3 i0 _ 1 8 Tryd.underlying23 hi0 hz0 hz1 hz2 rfl (by omega) (.slice A3 pre.length c3) pre.length (ints pre) rfl (hOw.out.alloc _) ⟨W.heap.size, 0, none⟩ 1 1 [.int .i64 v] rfl rfl (World.news_of_block (cs := #[.int .i64 v]) (t := 3) (fr := (0, 0)) (heap_alloc_new W _)) (by simp [Value.oneCell']) (by unfold maxLen; omega) (by omega) (by simp; omega) ?_); intro v' w1 hown1 hgrow _ hat; obtain ⟨g', cap', rfl⟩ := ownsRow_succ hown1; have hd3 := (hgrow.cell_far ⟨w.heap.size + 1 + 1 + 1, 0, none⟩ (by simp; omega) hb3).trans hx3; have hf3 := (hgrow.frozen_far ⟨w.heap.size + 1 + 1 + 1, 0, none⟩ (by simp; omega) hb3).trans hxf; have hd1 := (hgrow.cell_far ⟨w.heap.size + 1, 0, none⟩ (by simp; omega) hb1).trans hx1)
        obtain ⟨hFI, hkeep⟩ := FirstI.step hlow.out hnum.out hbox.out hub.out (by omega) rfl hown1 hgrow hat
        have hbl2 : ∀ k, W1.heap.size ≤ k → k < W1.heap.size + 3 → (w1.setCell ⟨w.heap.size + 1 + 1 + 1, 0, none⟩ (.slice (some ⟨g', 0, none⟩) (pre.length + 1) cap')).heap[k]? = W.heap[k]? := fun k h1 h2 =>
          hkeep k (by omega) (by omega) (fun e => by rcases hub.out k e.symm with h | h <;> omega)
        first | exact ⟨rfl, fun k h1 h2 => hbl2 k h1 (by omega), hFI, by rw [List.length_append]; exact hend.out⟩ | exact ⟨fun k h1 h2 => hbl2 k h1 (by omega), ⟨⟨hgrow.os, hgrow.tape, hgrow.output, by have := hgrow.size; rw [World.size_alloc] at this; simp [World.setCell]; omega, fun k hk => hkeep k (by omega) (by omega) (fun e => by rcases hub.out k e.symm with h | h <;> omega)⟩, hkeep _ (by omega) (by omega) (fun e => by rcases hub.out _ e.symm with h | h <;> omega), hbl2 _ (by omega) (by omega)⟩, hFI, by have := hend.out; omega⟩
    case stop =>
      rintro D pre W hD ⟨k, rfl⟩ ⟨⟨hlow, hnum, u, hbox, hO, hub⟩, hlen⟩ hK
      rw [firstL_len] at hlen
      subst hlen
      have hc3 : W.cell? ⟨w.heap.size + 1 + 1 + 1, 0, none⟩ = some u := by unfold World.cell?; rw [show w.heap.size + 1 + 1 + 1 = w.heap.size + 3 from rfl, hbox]; rfl
      gi_wp2
      refine ⟨by simp, .inl ⟨_, _, rfl, run_takeDeferred hK, ?_⟩⟩
      exact ⟨_, results_tmp rfl _ _ _, ⟨u, rfl, ownsRow_putObj hO _ hK rfl⟩, hlow.trans (belowK_b (w := w) (Nat.le_refl _) W D _ _ (by omega) hK rfl rfl)⟩
end Go.Proofs.YtfljkcmijnhgkaaDoor
