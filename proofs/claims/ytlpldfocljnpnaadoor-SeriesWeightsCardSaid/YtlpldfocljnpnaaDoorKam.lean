/- Layer 17 Layer 17 Layer 17 Layer 17 Layer 17 The values that the laws' examples ask The comparisons of layer 17 -/
import Derived.Test.YtlpldfocljnpnaaDoorKal
import Derived.Test.YtlpldfocljnpnaaDoorKaj
import Derived.Test.YtlpldfocljnpnaaDoorKad
import Derived.Test.YtlpldfocljnpnaaDoorKak
set_option maxRecDepth 100000
set_option maxHeartbeats 6400000
set_option linter.unusedSimpArgs false
namespace Go.Proofs.YtlpldfocljnpnaaDoor
open Go.RowKit Go.Shelf
theorem put_one {W : World} {B g n : Nat} {c : Nat} {xs : List Int} (h : OwnI W B (.slice (some ⟨g, 0, none⟩) n c) xs) : OwnI (W.setCell ⟨g, 0, none⟩ (.int .i64 1)) B (.slice (some ⟨g, 0, none⟩) n c) (xs.set 0 1) ∧ Frame (fun q => q = g) W (W.setCell ⟨g, 0, none⟩ (.int .i64 1)) :=
 ⟨h.put 0 1, Frame.setCell W g 0 _ rfl⟩
theorem OfRuleA_any (r : Rule) (v : Value) (w : World) (hv : RdR w v r) : Calls Tryd.prog 49 #[v] w (ResA (ofRuleP r) w) := by
 obtain ⟨iT, hiT, jT0, jT1, jT2⟩ := info_parts infoRR2
 have hR := Lib.hid hv
 obtain ⟨a, b, rfl, ra, rb⟩ := hv
 obtain ⟨Ab, cb, rfl, -, -⟩ := ra.cell_
 obtain ⟨As, cs, rfl, -, -⟩ := rb.cell_
 have hck := Lib.hid (fun W (hW : Below w.heap.size w W) => Right_any r _ W (by obtain ⟨a, b, e, h1, h2⟩ := hR.out; exact ⟨a, b, e, h1.below hW (Nat.le_refl _), h2.below hW (Nat.le_refl _)⟩))
 by_cases h0 : rightR r = 0
 ·obtain ⟨o1, o2, o3, o4⟩ := rightR_ok h0
  have hr : Hid (ofRuleP r = toldA (ruledA r)) := Lib.hid (if_pos h0)
  have hok := Lib.hid (ruled_ok h0)
  have hc1 := Lib.hid (fun (gn gr i k : Nat) (hi : i < r.by_.length) (hk : k < r.by_.length) W (hW : Below w.heap.size w W) (hgn : W.cell? ⟨gn, 0, none⟩ = some (.int .i64 (r.by_.length : Nat))) (hgr : W.cell? ⟨gr, 0, none⟩ = some (.slice Ab r.by_.length cb)) => OfRule_1 r.by_ r.by_.length rfl (by omega) Ab cb gn gr i k hi hk W (ra.below hW (Nat.le_refl _)) hgn hgr)
  have hra : Hid (ruledA r = mkA 1 r.start ((List.replicate r.by_.length 0).set 0 1) (fun _ => ruledE r.by_ r.by_.length) r.by_.length) := Lib.hid rfl
  have hrb := Lib.hid rb
  have ho2 := Lib.hid o2
  rw [h0] at hck
  rw [o2] at hck hrb ⊢
  clear ra rb hR o2 o3 o4 h0
  generalize ofRuleP r = R at *
  generalize hbs : r.by_ = bs at *
  generalize r.start = S at *
  generalize bs.length = n at *
  replace hbs := Lib.hid hbs
  obtain ⟨x0, x1, hz, hB⟩ := two0 w (.cells #[.slice Ab n cb, .slice As n cs] 41) (.cells #[.int .i64 0, .slice none 0 0, .slice none 0 0, .slice none 0 0] 25)
  go_enter Tryd.func49, Tryd.ntmps49
  go_wp2_with fail
  generalize ((w.alloc (.cells #[.slice Ab n cb, .slice As n cs] 41)).alloc (.cells #[.int .i64 0, .slice none 0 0, .slice none 0 0, .slice none 0 0] 25)) = X0 at *
  refine (hck.out X0 hB).mono ?_; rintro e W1 ⟨rfl, hb⟩
  have hB1 := Below.then_ hB hb
  replace x0 := (hb.block w.heap.size (by omega)).trans x0
  replace x1 := (hb.block (w.heap.size + 1) (by omega)).trans x1
  obtain ⟨q0, q1⟩ := cell_two x0
  have hal : Below W1.heap.size W1 (W1.alloc (.cells #[.int .i64 (n : Nat)] 3)) := (Below.refl _ _).alloc (Nat.le_refl _) _
  have hBX := Lib.hid (Below.then_ hB1 hal)
  have y0 := Lib.hid (heap_keep x0 hal)
  have y1 := Lib.hid (heap_keep x1 hal)
  have y2 := Lib.hid (cell_new W1 (.int .i64 (n : Nat)) 3)
  clear hb hB hB1 x0 x1 hal
  go_upto_region 5 with fail
  generalize W1.alloc (.cells #[.int .i64 (n : Nat)] 3) = X at *
  generalize W1.heap.size = hn at *
  have hn12 : n ≤ 1000 := by omega
  have cX := Lib.hid (fun W (hW : Below X.heap.size X W) => (⟨cell_two ((hW.block _ (lt_of_block y0.out)).trans y0.out), (hW.block _ (lt_of_block y1.out)).trans y1.out, (hW.cell (World.block_lt_of_cell? _ _ y2.out)).trans y2.out⟩ : (_ ∧ _) ∧ _ ∧ _))
  clear q0 q1
  refine Code.wp_mono (Q := Exit.then _ (fun _ _ _ => False)) (no_exit _ _) ?_
  refine ofi5 X _ hn n n Ab As cb cs _ (Lib.hid ⟨y0.out, y2.out, hn12⟩) (Lib.hid ?_) X (Lib.hid (Below.refl _ _))
  intro U V ⟨hBV, _, _, _, _, f3, f5, _⟩
  obtain ⟨g3, e3, b3, o3⟩ := f3 rfl
  obtain ⟨g5, e5, b5, -, x6⟩ := f5 rfl
  rw [e5]
  replace x6 := x6 rfl
  rw [e3] at x6
  replace hBV := Lib.hid hBV
  replace o3 := Lib.hid o3
  replace b3 := Lib.hid b3
  replace b5 := Lib.hid b5
  replace x6 := Lib.hid x6
  clear f3 f5 e3 e5
  rename (∀ (a : Act) (w : World), Code.wp _ _ _ a w → _) => hK2
  refine hK2 _ _ ?_
  clear hK2
  conv => arg 4; dsimp only
  have key : ∀ V', Below X.heap.size X V' → OwnI V' X.heap.size (.slice (some ⟨g3, 0, none⟩) n n) ((List.replicate n 0).set 0 1) → V'.heap[g5]? = some (.cells #[.int .i64 1, .slice As n cs, .slice (some ⟨g3, 0, none⟩) n n, .slice none 0 0] 25 (0, 0)) →
    Hid (WgtS X X.heap.size g5 1 (.slice As n cs) (.slice (some ⟨g3, 0, none⟩) n n) (.slice none 0 0) [] (fun _ => V'.heap.size) S ((List.replicate n 0).set 0 1) [] V') := fun V' h1 h2 h3 => Lib.hid ⟨h1, Nat.le_refl _, h3, b5.out, .inl (hrb.out.below hBX.out (Nat.le_refl _)), .inr ⟨_, Nat.le_refl _, h2⟩, OwnQ.nil V' h1.size (Nat.le_refl _)⟩
  replace key := Lib.hid key
  obtain ⟨⟨q0, q1⟩, u1, u2⟩ := cX.out V hBV.out
  obtain ⟨t0, t1, t2, t3⟩ := cells4 x6.out
  by_cases hn0 : n = 0
  ·have y3 : ¬ (0 : Int) < (n : Int) := by omega
   have hS := key.out V hBV.out (by have := o3.out; rw [show (List.replicate n (0 : Int)).set 0 1 = List.replicate n 0 by rw [hn0]; rfl]; exact this) x6.out
   replace hn0 := Lib.hid hn0
   clear key o3 x6
   go_upto_region 8 with fail
   obtain ⟨V9, rfl⟩ : ∃ V9, V9 = V := ⟨_, rfl⟩
   have hz9 := hS.out.low.size
   have hzz : V9.heap.size ≤ V9.heap.size := Nat.le_refl _
   have hmx := Lib.hid (fun W1 (hW : Below X.heap.size X W1) => mtx_any (ruledE bs n) n 99 #[.pointer (some ⟨hn, 0, none⟩), .pointer (some ⟨w.heap.size, 0, none⟩)] (enters_of Tryd.func99 (by kernel_rfl) rfl) W1 (by omega) (fun W2 i j hB2 hi hj => by
    have hl2 : Below X.heap.size X W2 := hW.trans (hB2.mono hW.size)
    obtain ⟨⟨e0, e1⟩, -, e2⟩ := cX.out W2 hl2
    exact hc1.out hn w.heap.size i j hi hj W2 (hBX.out.trans (hl2.mono hBX.out.size)) e2 e0))
   refine Code.wp_mono (Q := Exit.then _ (fun _ _ _ => False)) (no_exit _ _) ?_
   have hb9 : Hid (Below V9.heap.size V9 V9) := Lib.hid (Below.refl _ _)
   refine D_begin (fun W => Below X.heap.size X W) (fun W => W.heap[g5]? = some (.cells #[.int .i64 1, .slice As n cs, .slice (some ⟨g3, 0, none⟩) n n, .slice none 0 0] 25 (0, 0))) 8 (by kernel_rfl) ?_
   change wpAnyD _ _ _ _ _ _ _ _ _ _ V9.drew
   simp only [List.size_toArray, List.length_cons, List.length_nil, Nat.reduceAdd, Array.replicate_succ, Array.replicate_zero, List.push_toArray, List.append_toArray, List.nil_append, List.cons_append]
   have hD13 : Below V9.heap.size V9 V9.drew := (Below.refl _ _).drew
   replace hS := Lib.hid (hS.out.kept hD13)
   replace hb9 := Lib.hid (Below.then_ hb9.out hD13)
   have z_D13 := hD13.size; clear hD13
   generalize V9.drew = D13 at *
   refine Dt 0 rfl ?_ (by first | exact hlow9.out | exact hlow8.out | exact hS.out.low) (fun _ => (by first | exact hbx8.out | exact hS.out.box)) ?_ ?_
   rotate_left; · intro w1 hw1; obtain ⟨⟨q0, q1⟩, u1, u2⟩ := cX.out w1 hw1; go_simp; try with_reducible rfl
   try simp only [Act.put, s_1, s_2, s_3, s_4, s_5, s_6]
   refine Dt 2 rfl ?_ (by first | exact hlow9.out | exact hlow8.out | exact hS.out.low) (fun _ => (by first | exact hbx8.out | exact hS.out.box)) ?_ ?_
   rotate_left; · intro w1 hw1; obtain ⟨⟨q0, q1⟩, u1, u2⟩ := cX.out w1 hw1; go_simp; try with_reducible rfl
   try simp only [Act.put, s_1, s_2, s_3, s_4, s_5, s_6]
   refine Dt 3 rfl ?_ (by first | exact hlow9.out | exact hlow8.out | exact hS.out.low) (fun _ => (by first | exact hbx8.out | exact hS.out.box)) ?_ ?_
   rotate_left; · intro w1 hw1; obtain ⟨⟨q0, q1⟩, u1, u2⟩ := cX.out w1 hw1; go_simp; try with_reducible rfl
   try simp only [Act.put, s_1, s_2, s_3, s_4, s_5, s_6]
   refine D_load (i := 1) (v := ?_) rfl (by kernel_rfl) (by kernel_rfl) (by kernel_rfl) (by kernel_rfl) (by kernel_rfl) rfl (fun _ _ _ h => h) (Or.inl ⟨by rfl, ?_⟩) (by first | exact hlow9.out | exact hlow8.out | exact hS.out.low) (by first | exact hbx8.out | exact hS.out.box) ?_
   rotate_left; · intro w1 hw1; obtain ⟨t1, t2, t3, t4⟩ := cells4 hw1.2; go_simp; try with_reducible rfl
   try simp only [Act.put, s_1, s_2, s_3, s_4, s_5, s_6]
   refine D_one (i := 4) (by kernel_rfl) rfl ?_
   intro K hK
   rw [if_pos (by rfl)]
   have htop := hS.out.mats.top
   obtain ⟨B8, hB8⟩ : ∃ B8, D13.heap.size = B8 := ⟨_, rfl⟩
   go_wp2_with fail
   refine (hmx.out D13 hS.out.low).mono ?_; rintro e D13_1 ⟨⟨v8, rfl, o8⟩, hE1⟩
   replace hS := Lib.hid (hS.out.kept hE1)
   replace hb9 := Lib.hid (Below.then_ hb9.out hE1)
   rw [hB8] at o8
   obtain ⟨A8, c8, e8⟩ := o8.form
   rw [mat_len] at e8
   subst e8
   replace o8 := Lib.hid o8
   rw [hB8] at htop
   have z_1 := hE1.size; clear hE1
   refine hK _ _ (by first | exact hlow9.out | exact hlow8.out | exact hS.out.low) (fun _ _ => (by first | exact hbx8.out | exact hS.out.box)) ?_
   clear hK K
   try simp only [Act.put, s_1, s_2, s_3, s_4, s_5, s_6]
   refine D_one (i := 5) (by kernel_rfl) rfl ?_
   intro K hK
   rw [if_pos (by rfl)]
   go_simp
   have hE2 : Below D13_1.heap.size D13_1 (D13_1.alloc (.cells #[.slice A8 n c8] 59)) := (Below.refl _ _).alloc (Nat.le_refl _) _
   replace hS := Lib.hid (hS.out.kept hE2)
   replace hb9 := Lib.hid (Below.then_ hb9.out hE2)
   replace o8 := Lib.hid (o8.out.below hE2)
   have n9 : Hid (∀ j u, [.slice A8 n c8][j]? = some u → (D13_1.alloc (.cells #[.slice A8 n c8] 59)).cell? ((⟨D13_1.heap.size, 0, none⟩ : Addr).add j) = some u) := Lib.hid (news_new _ _ _)
   have z_2 : D13_1.heap.size < (D13_1.alloc (.cells #[.slice A8 n c8] 59)).heap.size := by simp
   clear hE2
   refine hK _ _ (by first | exact hlow9.out | exact hlow8.out | exact hS.out.low) (fun _ _ => (by first | exact hbx8.out | exact hS.out.box)) ?_
   clear hK K
   try simp only [Act.put, s_1, s_2, s_3, s_4, s_5, s_6]
   generalize (D13_1.alloc (.cells #[.slice A8 n c8] 59)) = D13_2 at *
   refine D_one (i := 6) (by kernel_rfl) rfl ?_
   intro K hK
   refine step_app1 (by rfl) _ _ 23 (by rfl) 59 iT _ 1 24 Tryd.underlying23 hiT jT0 jT1 jT2 (by rfl) (by omega) (by omega) X.heap.size (.slice none 0 0) 0 [] (by rfl) hS.out.mats.outer ⟨_, 0, none⟩ [.slice A8 n c8] (by rfl) rfl n9.out (by simp [Value.oneCell']) (by omega) hS.out.low.size ?_
   intro A10 c10 X8 hown8 hgrow8 hat8
   obtain ⟨hbx8, ⟨lo', hS9, -⟩, -, hlow8⟩ := hS.out.snoc (B := B8) htop (by omega) o8.out hown8 hgrow8
   have hlow9 := Lib.hid hS9.low
   obtain ⟨t1, t2, t3, t4⟩ := cells4 hbx8
   have f3 := froz hbx8 3
   replace hS9 := Lib.hid hS9
   replace hbx8 := Lib.hid hbx8
   replace hlow8 := Lib.hid hlow8
   clear hown8 hgrow8 hat8 n9
   refine hK _ _ (by first | exact hlow9.out | exact hlow8.out | exact hS.out.low) (fun _ _ => (by first | exact hbx8.out | exact hS.out.box)) ?_
   clear hK K
   try simp only [Act.put, s_1, s_2, s_3, s_4, s_5, s_6]
   refine Dt 7 rfl ?_ (by first | exact hlow9.out | exact hlow8.out | exact hS.out.low) (fun _ => (by first | exact hbx8.out | exact hS.out.box)) ?_ ?_
   rotate_left; · intro w1 hw1; obtain ⟨⟨q0, q1⟩, u1, u2⟩ := cX.out w1 hw1; go_simp; try with_reducible rfl
   try simp only [Act.put, s_1, s_2, s_3, s_4, s_5, s_6]
   refine D_one (i := 8) (by kernel_rfl) rfl ?_
   intro K hK
   rw [if_pos (by rfl)]
   go_simp
   refine hK _ _ (by first | exact hlow9.out | exact hlow8.out | exact hS.out.low) (fun h _ => absurd rfl h) ?_
   clear hK K
   try simp only [Act.put, s_1, s_2, s_3, s_4, s_5, s_6]
   refine D_done (by kernel_rfl) ?_ _
   rename (∀ (a : Act) (w : World), Code.wp _ _ _ a w → _) => hK2
   refine hK2 _ _ ?_
   clear hK2
   generalize X8.setCell ⟨g5, 3, none⟩ (.slice A10 (0 + 1) c10) = X9 at *
   have hrd := hS9.out.rd (by rw [ho2.out]; omega) (by simp; omega) (by simp) (fun m hm => by
    rw [List.nil_append, List.mem_singleton] at hm
    subst hm
    exact ⟨by rw [mat_len]; omega, fun r hr => by obtain ⟨i, -, rfl⟩ := List.mem_map.1 hr; simp; omega⟩)
   have hcall := Lib.hid (result_any hok.out (by omega) _ _ _ X9 (by rw [hra.out]; exact hrd))
   obtain ⟨q0, q1, q2, q3⟩ := cells4 hS9.out.box
   have x1r := (cX.out X9 hlow9.out).2.1
   have hBF := Lib.hid (hBX.out.trans (hlow9.out.mono hBX.out.size))
   clear hrd
   go_wp2_with fail
   refine hcall.out.mono ?_; rintro e W2 ⟨x, rfl, hF, hb2⟩
   obtain ⟨A1, A2, A3, m1, m2, m3, c1, c2, c3, rfl⟩ := hF.form
   replace x1r := Lib.hid ((hb2.block _ (lt_of_block x1r)).trans x1r)
   obtain ⟨p0, p1, p2, p3⟩ := cells4 x1r.out
   obtain ⟨f0, f1, f2, f3⟩ := frozen4 x1r.out
   have hB2 := Lib.hid (Below.then_ hBF.out hb2)
   have hF2 := Lib.hid (hF.base (Nat.le_trans hBF.out.size (Nat.le_refl _)))
   generalize toldA (ruledA r) = p at *
   obtain ⟨bb, er⟩ := p
   simp only [] at hF2 ⊢
   clear hF hb2
   go_wp2_with fail
   refine bodyPost_ret (res_ct rfl _ _ (w.heap.size + 1) 25 #[.int .i64 bb.letters, .slice A1 m1 c1, .slice A2 m2 c2, .slice A3 m3 c3] (0, 0) _ rfl (heap_set4 _ _ _ _ x1r.out) rfl rfl rfl) rfl ?_
   rw [hr.out]
   exact resA_set (p := (bb, er)) x1r.out (by omega) hB2.out hF2.out (Nat.le_refl _)
  ·have y3 : (0 : Int) < (n : Int) := by omega
   obtain ⟨hO, hF⟩ := put_one o3.out
   obtain ⟨cs3, hty⟩ := own_ty o3.out (q := g3) rfl
   have hne : g5 ≠ g3 := fun e => by subst e; exact type_ne x6.out hty (by decide)
   have hS := key.out _ (hBV.out.trans (hF.below (B := X.heap.size) hBV.out.size (fun q hq => by rw [hq]; exact b3.out))) hO (hF.heap x6.out hne)
   obtain ⟨nS1, nS2⟩ := o3.out.num (k := 0) (by simp; omega)
   clear key o3 x6 hO hF hty
   go_upto_region 8 with fail
   generalize V.setCell ⟨g3, 0, none⟩ (.int .i64 1) = V9 at *
   clear nS1 nS2
   have hz9 := hS.out.low.size
   have hzz : V9.heap.size ≤ V9.heap.size := Nat.le_refl _
   have hmx := Lib.hid (fun W1 (hW : Below X.heap.size X W1) => mtx_any (ruledE bs n) n 99 #[.pointer (some ⟨hn, 0, none⟩), .pointer (some ⟨w.heap.size, 0, none⟩)] (enters_of Tryd.func99 (by kernel_rfl) rfl) W1 (by omega) (fun W2 i j hB2 hi hj => by
    have hl2 : Below X.heap.size X W2 := hW.trans (hB2.mono hW.size)
    obtain ⟨⟨e0, e1⟩, -, e2⟩ := cX.out W2 hl2
    exact hc1.out hn w.heap.size i j hi hj W2 (hBX.out.trans (hl2.mono hBX.out.size)) e2 e0))
   refine Code.wp_mono (Q := Exit.then _ (fun _ _ _ => False)) (no_exit _ _) ?_
   have hb9 : Hid (Below V9.heap.size V9 V9) := Lib.hid (Below.refl _ _)
   refine D_begin (fun W => Below X.heap.size X W) (fun W => W.heap[g5]? = some (.cells #[.int .i64 1, .slice As n cs, .slice (some ⟨g3, 0, none⟩) n n, .slice none 0 0] 25 (0, 0))) 8 (by kernel_rfl) ?_
   change wpAnyD _ _ _ _ _ _ _ _ _ _ V9.drew
   simp only [List.size_toArray, List.length_cons, List.length_nil, Nat.reduceAdd, Array.replicate_succ, Array.replicate_zero, List.push_toArray, List.append_toArray, List.nil_append, List.cons_append]
   have hD14 : Below V9.heap.size V9 V9.drew := (Below.refl _ _).drew
   replace hS := Lib.hid (hS.out.kept hD14)
   replace hb9 := Lib.hid (Below.then_ hb9.out hD14)
   have z_D14 := hD14.size; clear hD14
   generalize V9.drew = D14 at *
   refine Dt 0 rfl ?_ (by first | exact hlow9.out | exact hlow8.out | exact hS.out.low) (fun _ => (by first | exact hbx8.out | exact hS.out.box)) ?_ ?_
   rotate_left; · intro w1 hw1; obtain ⟨⟨q0, q1⟩, u1, u2⟩ := cX.out w1 hw1; go_simp; try with_reducible rfl
   try simp only [Act.put, s_1, s_2, s_3, s_4, s_5, s_6]
   refine Dt 2 rfl ?_ (by first | exact hlow9.out | exact hlow8.out | exact hS.out.low) (fun _ => (by first | exact hbx8.out | exact hS.out.box)) ?_ ?_
   rotate_left; · intro w1 hw1; obtain ⟨⟨q0, q1⟩, u1, u2⟩ := cX.out w1 hw1; go_simp; try with_reducible rfl
   try simp only [Act.put, s_1, s_2, s_3, s_4, s_5, s_6]
   refine Dt 3 rfl ?_ (by first | exact hlow9.out | exact hlow8.out | exact hS.out.low) (fun _ => (by first | exact hbx8.out | exact hS.out.box)) ?_ ?_
   rotate_left; · intro w1 hw1; obtain ⟨⟨q0, q1⟩, u1, u2⟩ := cX.out w1 hw1; go_simp; try with_reducible rfl
   try simp only [Act.put, s_1, s_2, s_3, s_4, s_5, s_6]
   refine D_load (i := 1) (v := ?_) rfl (by kernel_rfl) (by kernel_rfl) (by kernel_rfl) (by kernel_rfl) (by kernel_rfl) rfl (fun _ _ _ h => h) (Or.inl ⟨by rfl, ?_⟩) (by first | exact hlow9.out | exact hlow8.out | exact hS.out.low) (by first | exact hbx8.out | exact hS.out.box) ?_
   rotate_left; · intro w1 hw1; obtain ⟨t1, t2, t3, t4⟩ := cells4 hw1.2; go_simp; try with_reducible rfl
   try simp only [Act.put, s_1, s_2, s_3, s_4, s_5, s_6]
   refine D_one (i := 4) (by kernel_rfl) rfl ?_
   intro K hK
   rw [if_pos (by rfl)]
   have htop := hS.out.mats.top
   obtain ⟨B8, hB8⟩ : ∃ B8, D14.heap.size = B8 := ⟨_, rfl⟩
   go_wp2_with fail
   refine (hmx.out D14 hS.out.low).mono ?_; rintro e D14_1 ⟨⟨v8, rfl, o8⟩, hE1⟩
   replace hS := Lib.hid (hS.out.kept hE1)
   replace hb9 := Lib.hid (Below.then_ hb9.out hE1)
   rw [hB8] at o8
   obtain ⟨A8, c8, e8⟩ := o8.form
   rw [mat_len] at e8
   subst e8
   replace o8 := Lib.hid o8
   rw [hB8] at htop
   have z_1 := hE1.size; clear hE1
   refine hK _ _ (by first | exact hlow9.out | exact hlow8.out | exact hS.out.low) (fun _ _ => (by first | exact hbx8.out | exact hS.out.box)) ?_
   clear hK K
   try simp only [Act.put, s_1, s_2, s_3, s_4, s_5, s_6]
   refine D_one (i := 5) (by kernel_rfl) rfl ?_
   intro K hK
   rw [if_pos (by rfl)]
   go_simp
   have hE2 : Below D14_1.heap.size D14_1 (D14_1.alloc (.cells #[.slice A8 n c8] 59)) := (Below.refl _ _).alloc (Nat.le_refl _) _
   replace hS := Lib.hid (hS.out.kept hE2)
   replace hb9 := Lib.hid (Below.then_ hb9.out hE2)
   replace o8 := Lib.hid (o8.out.below hE2)
   have n9 : Hid (∀ j u, [.slice A8 n c8][j]? = some u → (D14_1.alloc (.cells #[.slice A8 n c8] 59)).cell? ((⟨D14_1.heap.size, 0, none⟩ : Addr).add j) = some u) := Lib.hid (news_new _ _ _)
   have z_2 : D14_1.heap.size < (D14_1.alloc (.cells #[.slice A8 n c8] 59)).heap.size := by simp
   clear hE2
   refine hK _ _ (by first | exact hlow9.out | exact hlow8.out | exact hS.out.low) (fun _ _ => (by first | exact hbx8.out | exact hS.out.box)) ?_
   clear hK K
   try simp only [Act.put, s_1, s_2, s_3, s_4, s_5, s_6]
   generalize (D14_1.alloc (.cells #[.slice A8 n c8] 59)) = D14_2 at *
   refine D_one (i := 6) (by kernel_rfl) rfl ?_
   intro K hK
   refine step_app1 (by rfl) _ _ 23 (by rfl) 59 iT _ 1 24 Tryd.underlying23 hiT jT0 jT1 jT2 (by rfl) (by omega) (by omega) X.heap.size (.slice none 0 0) 0 [] (by rfl) hS.out.mats.outer ⟨_, 0, none⟩ [.slice A8 n c8] (by rfl) rfl n9.out (by simp [Value.oneCell']) (by omega) hS.out.low.size ?_
   intro A10 c10 X8 hown8 hgrow8 hat8
   obtain ⟨hbx8, ⟨lo', hS9, -⟩, -, hlow8⟩ := hS.out.snoc (B := B8) htop (by omega) o8.out hown8 hgrow8
   have hlow9 := Lib.hid hS9.low
   obtain ⟨t1, t2, t3, t4⟩ := cells4 hbx8
   have f3 := froz hbx8 3
   replace hS9 := Lib.hid hS9
   replace hbx8 := Lib.hid hbx8
   replace hlow8 := Lib.hid hlow8
   clear hown8 hgrow8 hat8 n9
   refine hK _ _ (by first | exact hlow9.out | exact hlow8.out | exact hS.out.low) (fun _ _ => (by first | exact hbx8.out | exact hS.out.box)) ?_
   clear hK K
   try simp only [Act.put, s_1, s_2, s_3, s_4, s_5, s_6]
   refine Dt 7 rfl ?_ (by first | exact hlow9.out | exact hlow8.out | exact hS.out.low) (fun _ => (by first | exact hbx8.out | exact hS.out.box)) ?_ ?_
   rotate_left; · intro w1 hw1; obtain ⟨⟨q0, q1⟩, u1, u2⟩ := cX.out w1 hw1; go_simp; try with_reducible rfl
   try simp only [Act.put, s_1, s_2, s_3, s_4, s_5, s_6]
   refine D_one (i := 8) (by kernel_rfl) rfl ?_
   intro K hK
   rw [if_pos (by rfl)]
   go_simp
   refine hK _ _ (by first | exact hlow9.out | exact hlow8.out | exact hS.out.low) (fun h _ => absurd rfl h) ?_
   clear hK K
   try simp only [Act.put, s_1, s_2, s_3, s_4, s_5, s_6]
   refine D_done (by kernel_rfl) ?_ _
   rename (∀ (a : Act) (w : World), Code.wp _ _ _ a w → _) => hK2
   refine hK2 _ _ ?_
   clear hK2
   generalize X8.setCell ⟨g5, 3, none⟩ (.slice A10 (0 + 1) c10) = X9 at *
   have hrd := hS9.out.rd (by rw [ho2.out]; omega) (by simp; omega) (by simp) (fun m hm => by
    rw [List.nil_append, List.mem_singleton] at hm
    subst hm
    exact ⟨by rw [mat_len]; omega, fun r hr => by obtain ⟨i, -, rfl⟩ := List.mem_map.1 hr; simp; omega⟩)
   have hcall := Lib.hid (result_any hok.out (by omega) _ _ _ X9 (by rw [hra.out]; exact hrd))
   obtain ⟨q0, q1, q2, q3⟩ := cells4 hS9.out.box
   have x1r := (cX.out X9 hlow9.out).2.1
   have hBF := Lib.hid (hBX.out.trans (hlow9.out.mono hBX.out.size))
   clear hrd
   go_wp2_with fail
   refine hcall.out.mono ?_; rintro e W2 ⟨x, rfl, hF, hb2⟩
   obtain ⟨A1, A2, A3, m1, m2, m3, c1, c2, c3, rfl⟩ := hF.form
   replace x1r := Lib.hid ((hb2.block _ (lt_of_block x1r)).trans x1r)
   obtain ⟨p0, p1, p2, p3⟩ := cells4 x1r.out
   obtain ⟨f0, f1, f2, f3⟩ := frozen4 x1r.out
   have hB2 := Lib.hid (Below.then_ hBF.out hb2)
   have hF2 := Lib.hid (hF.base (Nat.le_trans hBF.out.size (Nat.le_refl _)))
   generalize toldA (ruledA r) = p at *
   obtain ⟨bb, er⟩ := p
   simp only [] at hF2 ⊢
   clear hF hb2
   go_wp2_with fail
   refine bodyPost_ret (res_ct rfl _ _ (w.heap.size + 1) 25 #[.int .i64 bb.letters, .slice A1 m1 c1, .slice A2 m2 c2, .slice A3 m3 c3] (0, 0) _ rfl (heap_set4 _ _ _ _ x1r.out) rfl rfl rfl) rfl ?_
   rw [hr.out]
   exact resA_set (p := (bb, er)) x1r.out (by omega) hB2.out hF2.out (Nat.le_refl _)
 ·have hr : Hid (ofRuleP r = (aut0, rightR r)) := Lib.hid (if_neg h0)
  have hne : (rightR r != 0) = true := by rw [bne_iff_ne]; exact h0
  clear ra rb hR
  generalize ofRuleP r = R at *
  generalize rightR r = er at *
  generalize r.by_.length = n at *
  generalize r.start.length = m at *
  obtain ⟨x0, x1, hz, hB⟩ := two0 w (.cells #[.slice Ab n cb, .slice As m cs] 41) (.cells #[.int .i64 0, .slice none 0 0, .slice none 0 0, .slice none 0 0] 25)
  go_enter Tryd.func49, Tryd.ntmps49
  go_wp2_with fail
  generalize ((w.alloc (.cells #[.slice Ab n cb, .slice As m cs] 41)).alloc (.cells #[.int .i64 0, .slice none 0 0, .slice none 0 0, .slice none 0 0] 25)) = X0 at *
  refine (hck.out X0 hB).mono ?_; rintro e W1 ⟨rfl, hb⟩
  have hB1 := Lib.hid (Below.then_ hB hb)
  replace x1 := (hb.block (w.heap.size + 1) (by omega)).trans x1
  obtain ⟨p0, p1, p2, p3⟩ := cells4 x1
  obtain ⟨f0, f1, f2, f3⟩ := frozen4 x1
  replace x1 := Lib.hid x1
  clear hb hB x0
  go_wp2_with fail
  refine bodyPost_ret (res_ct rfl _ _ (w.heap.size + 1) 25 #[.int .i64 0, .slice none 0 0, .slice none 0 0, .slice none 0 0] (0, 0) _ rfl (heap_set4 _ _ _ _ x1.out) rfl rfl rfl) rfl ?_
  rw [hr.out]
  exact resA_set (p := (aut0, er)) x1.out (by omega) hB1.out (FrA.zero _ _) (Nat.le_refl _)
end Go.Proofs.YtlpldfocljnpnaaDoor
namespace Go.Proofs.YtlpldfocljnpnaaDoor
open Go.RowKit Go.Shelf
def wtN (a : Aut) (q : Nat) : Int := wtW a (List.replicate q 0)
def termsA (a : Aut) (n : Nat) : List Int := (List.range (2 * n)).map (wtN a)
theorem rep_snoc (q : Nat) : List.replicate (q + 1) 0 = List.replicate q 0 ++ [0] := by
 rw [List.replicate_succ']
theorem terms_snoc (f : Nat → Int) (q : Nat) : (List.range q).map f ++ [f q] = (List.range (q + 1)).map f := by
 rw [List.range_succ, List.map_append, List.map_singleton]
def rule0 : Rule := ⟨[], []⟩
theorem serRule_any {a : Aut} {n : Nat} (ok : okA a 1 n) (hn : n ≤ 400) (s e t : Value) (w : World) (ra : RdA w s e t a) :
  Calls Tryd.prog 65 #[.agg #[.int .i64 1, s, e, t]] w (RuleOut (leastR (termsA a n)) w) := by
 obtain ⟨As, cs, e1, -, -⟩ := ra.start.cell_
 obtain ⟨Ae, ce, e2, -, -⟩ := ra.end_.cell_
 obtain ⟨At, ct, e3, -, -⟩ := RdS.open_ ([] : List (List Int)) ra.steps
 rw [ok.start.1] at e1
 rw [ok.end_.1] at e2
 rw [ok.steps] at e3
 subst e1 e2 e3
 obtain ⟨iI, hiI, jI0, jI1, jI2⟩ := info_parts infoI
 obtain ⟨x0, x1, hz, hB⟩ := two0 w (.cells #[.int .i64 1, .slice As n cs, .slice Ae n ce, .slice At 1 ct] 77) (.cells #[.slice none 0 0, .slice none 0 0] 41)
 have hra := Lib.hid ra
 have hst := Lib.hid (fun W => states_any 1 As n cs (.slice Ae n ce) (.slice At 1 ct) W)
 have cD := Lib.hid (fun q vr W (hW : Below w.heap.size w W) (hr : RdI W vr (rowW a (List.replicate q 0))) => (dot_any (rowW a (List.replicate q 0)) a.end_ vr (.slice Ae n ce) W hr (ra.end_.below hW (Nat.le_refl _)) (by rw [rowW_len ok, ok.end_.1]; exact Nat.le_refl _) (by rw [rowW_len ok]; omega) (rowW_bd ok _) ok.end_.2).mono (R' := fun e w' => e = .returned (.int .i64 (wtN a q)) ∧ Below W.heap.size W w') (fun e w' ⟨h1, h2⟩ => ⟨h1, h2 ▸ Below.refl _ _⟩))
 have cF := Lib.hid (fun q vr W (hW : Below w.heap.size w W) (hr : RdI W vr (rowW a (List.replicate q 0))) => forth_k ok (by omega) (List.replicate q 0) 0 (by omega) (.slice As n cs) (.slice Ae n ce) (.slice At 1 ct) vr W (ra.below hW (Nat.le_refl _)) hr)
 have hrl := Lib.hid (fun q => rowW_len ok (List.replicate q 0))
 have hle := Lib.hid (fun v W (h : RdI W v (termsA a n)) => Least_any (termsA a n) v W h)
 have hr0 := Lib.hid (show RdI w (.slice As n cs) (rowW a (List.replicate 0 0)) from ra.start)
 have hte : Hid (termsA a n = (List.range (2 * n)).map (wtN a)) := Lib.hid rfl
 generalize leastR (termsA a n) = R at *
 obtain ⟨q0, q1, q2, q3⟩ := cells4 x0
 have x0' := Lib.hid x0
 have x1' := Lib.hid x1
 clear ra ok x0 x1
 obtain ⟨N, hN⟩ : ∃ N, 2 * n = N := ⟨_, rfl⟩
 have w1 : IntKind.i64.wrap (2 * (n : Int)) = (N : Int) := by rw [IntKind.wrap_i64]; omega
 have w2 : (2 : Int) * (n : Int) = (N : Int) := by omega
 rw [hN] at hte
 have hN8 : N ≤ 800 := by omega
 replace hN := Lib.hid hN
 replace hB := Lib.hid hB
 go_enter Tryd.func65, Tryd.ntmps65
 go_wp2_with fail
 generalize ((w.alloc (.cells #[.int .i64 1, .slice As n cs, .slice Ae n ce, .slice At 1 ct] 77)).alloc (.cells #[.slice none 0 0, .slice none 0 0] 41)) = X at *
 refine (hst.out X).mono ?_; rintro e W1 ⟨rfl, hb1⟩
 have hB1 := Lib.hid (Below.then_ hB.out hb1)
 have cE := Lib.hid (fun W (hW : Below X.heap.size X W) => cells4 ((hW.block _ (lt_of_block x0'.out)).trans x0'.out))
 have hl1 := Lib.hid hb1
 replace hr0 := Lib.hid (hr0.out.below hB1.out (Nat.le_refl _))
 have ho0 : Hid (OwnI W1 X.heap.size (.slice none 0 0) ((List.range 0).map (wtN a))) := Lib.hid (OwnI_nil _ _)
 clear hb1 q0 q1 q2 q3 hst
 go_wp2
 go_loopw [4, 5, 12] (fun v r i wr => ∃ q : Nat, q ≤ N ∧ i = .int .i64 q ∧ Hid (Below X.heap.size X wr) ∧ Hid (OwnI wr X.heap.size v ((List.range q).map (wtN a))) ∧ Hid (RdIo (fun g => v.ownBlock ≠ some g) wr r (rowW a (List.replicate q 0)))) (fun _ _ i _ => N - (intOf i).toNat)
 case atStart => exact ⟨0, Nat.zero_le _, rfl, hl1, ho0, Lib.hid (RdIo.of hr0.out (Below.refl _ _) (fun _ _ => by simp [Value.ownBlock]))⟩
 case round =>
  obtain ⟨q, hq, rfl, hL, hO, hR⟩ := hrel
  obtain ⟨A4, c4, e4⟩ := own_form hO.out
  rw [List.length_map, List.length_range] at e4
  subst e4
  have hsz := hL.out.size
  have hlw := Lib.hid (Below.trans hB.out (hL.out.mono hB.out.size))
  by_cases hlt : q < N
  ·obtain ⟨A5, c5, e5, -, -⟩ := hR.out.rd.cell_
   rw [hrl.out] at e5
   subst e5
   obtain ⟨q0, q1, q2, q3⟩ := cE.out wr hL.out
   have y1 : (q : Int) < (N : Int) := by omega
   have hown := Lib.hid (show wr.ownsRow X.heap.size 3 1 (.slice A4 q c4) q (ints ((List.range q).map (wtN a))) from by have := hO.out; unfold OwnI at this; rwa [List.length_map, List.length_range] at this)
   go_wp2_with fail
   refine (cD.out q _ wr hlw.out hR.out.rd).mono ?_; rintro e W2 ⟨rfl, hb2⟩
   replace hL := Lib.hid (Below.then_ hL.out hb2)
   replace hown := Lib.hid (own_below hown.out hb2)
   replace hR := Lib.hid (hR.out.keep (O' := fun g => (Value.slice A4 q c4).ownBlock ≠ some g) (Frame.of_below (F := fun _ => False) hb2) (fun g _ h => ⟨fun h => h, h⟩))
   have hsz2 := hb2.size
   obtain ⟨q0, q1, q2, q3⟩ := cE.out W2 hL.out
   generalize hv : wtN a q = v at *
   have hL3 := Lib.hid (hL.out.alloc (by omega) (.cells #[.int .i64 v] 3))
   have hR3 := Lib.hid (hR.out.keep (O' := fun g => (Value.slice A4 q c4).ownBlock ≠ some g ∧ g < W2.heap.size) (Frame.of_below (F := fun _ => False) ((Below.refl W2.heap.size W2).alloc (Nat.le_refl _) (.cells #[.int .i64 v] 3))) (fun g hg h => ⟨fun h => h, h, hg⟩))
   replace hv := Lib.hid hv
   clear hb2
   go_wp2_with (at_builtin; (refine wpList_app1 rfl _ _ 22 rfl 3 iI _ 1 8 Tryd.underlying22 hiI jI0 jI1 jI2 rfl (by omega) (by omega) X.heap.size (.slice A4 q c4) q (ints ((List.range q).map (wtN a))) rfl (own_below hown.out ((Below.refl W2.heap.size W2).alloc (Nat.le_refl _) _)) ⟨W2.heap.size, 0, none⟩ [.int .i64 v] rfl rfl (news_new W2 [.int .i64 v] _) (by simp [Value.oneCell']) (by omega) (by simp; omega) ?_); intro A6 c6 W3 hown3 hgrow3 hat3; have hL4 := Lib.hid (hL3.out.grown hgrow3 (by simp; omega) (fun g hg => (hown.out.lt g hg).1)); obtain ⟨q0, q1, q2, q3⟩ := cE.out W3 hL4.out)
   have hO4 : Hid (OwnI W3 X.heap.size (.slice A6 (q + 1) c6) ((List.range (q + 1)).map (wtN a))) := Lib.hid (by
    have := own_snoc1 (xs := (List.range q).map (wtN a)) (x := v) (by simp) hown3
    rw [← hv.out, terms_snoc] at this
    exact this)
   have hR4 : Hid (RdI W3 (.slice A5 n c5) (rowW a (List.replicate q 0))) := Lib.hid ((hR3.out.keep (O' := fun _ => True) (Frame.grown (F := fun g => (Value.slice A4 q c4).ownBlock = some g) hgrow3 (fun g e => e)) (fun g hg h => ⟨h.1, trivial⟩)).rd)
   have hlt6 := Lib.hid (fun g (hg : (Value.slice A6 (q + 1) c6).ownBlock = some g) => (hO4.out.lt g hg).2)
   clear hown3 hgrow3 hat3 hL3 hR3
   refine (cF.out q _ W3 (Below.trans hB.out (hL4.out.mono hB.out.size)) hR4.out).mono ?_; rintro e W4 ⟨⟨v4, rfl, o4⟩, hb4⟩
   have hL5 := Lib.hid (Below.then_ hL4.out hb4)
   have hO5 := Lib.hid (hO4.out.below hb4)
   have hR5 : Hid (RdIo (fun g => (Value.slice A6 (q + 1) c6).ownBlock ≠ some g) W4 v4 (rowW a (List.replicate (q + 1) 0))) := Lib.hid (by
    have := OwnI.o (O := fun g => (Value.slice A6 (q + 1) c6).ownBlock ≠ some g) o4 (by rw [← rep_snoc, hrl.out]; omega) (fun g _ hb _ e => by have := hlt6.out g e; omega)
    rwa [← rep_snoc] at this)
   clear hb4 o4
   go_wp2
   go_roundw
   case rel => exact ⟨q + 1, by omega, by go_num, hL5, hO5, hR5⟩
   case measure => simp [intOf]; omega
  ·obtain rfl : q = N := by omega
   have hrd := Lib.hid (hle.out _ wr (by rw [hte.out]; exact hO.out.rd (by simp; omega)))
   go_wp2_with fail
   refine hrd.out.mono ?_; rintro e W2 ⟨v, rfl, ⟨a1, b1, rfl, oa, ob⟩, hb2⟩
   obtain ⟨A7, c7, rfl⟩ := own_form oa
   obtain ⟨A8, c8, rfl⟩ := own_form ob
   have hg := (hb2.block _ (Nat.lt_of_lt_of_le (lt_of_block x1'.out) hsz)).trans ((hL.out.block _ (lt_of_block x1'.out)).trans x1'.out)
   obtain ⟨p0, p1, p2, p3⟩ := ret_cell hg
   have hB2 := Lib.hid (Below.then_ hlw.out hb2)
   replace hg := Lib.hid hg
   replace oa := Lib.hid oa
   replace ob := Lib.hid ob
   have hlx := lt_of_block x1'.out
   clear hb2
   obtain ⟨rr, er⟩ := R
   simp only []  at oa ob ⊢
   go_wp2
   refine bodyPost_ret (res_ct rfl _ _ (w.heap.size + 1) 41 #[.slice A7 rr.by_.length c7, .slice A8 rr.start.length c8] (0, 0) _ rfl (heap_set2 _ _ hg.out) rfl rfl rfl) rfl ?_
   exact ⟨_, rfl, ⟨_, _, rfl, own_two oa.out (by omega) (by omega) _ _, own_two ob.out (by omega) (by omega) _ _⟩, (hB2.out.setCell (p := ⟨w.heap.size + 1, 0, none⟩) (by simp) _).setCell (p := ⟨w.heap.size + 1, 1, none⟩) (by simp) _⟩
end Go.Proofs.YtlpldfocljnpnaaDoor
namespace Go.Proofs.YtlpldfocljnpnaaDoor
open Go.RowKit Go.Shelf
def sumE (a : Aut) (i j : Nat) : Int := psum (fun x => G3 a x i j) a.steps.length % 65521
def lenA (a : Aut) (n : Nat) : Aut := ⟨1, a.start, a.end_, [mat (sumE a) n n]⟩
theorem lenA_ok {a : Aut} {k n : Nat} (ok : okA a k n) : okA (lenA a n) 1 n :=
 ⟨rfl, by omega, ok.start, ok.end_, rfl, fun m hm => by
  rw [List.mem_singleton.1 hm]
  exact okM_mat _ _ _ fun i j _ _ => ⟨Int.emod_nonneg _ (by decide), Int.emod_lt_of_pos _ (by decide)⟩⟩
theorem Lengths_1 {a : Aut} {k n : Nat} (ok : okA a k n) (s e t : Value) (ga i j : Nat) (hi : i < n) (hj : j < n) (l : Int) (W : World) (ra : RdA W s e t a) (hga : W.heap[ga]? = some (.cells #[.int .i64 l, s, e, t] 25 (0, 0))) :
  Calls Tryd.prog 64 (#[.int .i64 i, .int .i64 j] ++ #[.pointer (some ⟨ga, 0, none⟩)]) W fun r w' => r = .returned (.int .i64 (sumE a i j)) ∧ Below W.heap.size W w' := by
 have hk := ok.pos
 obtain ⟨b1, o1, c1, b2, o2, c2, b3, o3, c3, rfl, -, -, -⟩ := ra.num ok (show 0 < k by omega) hi hj
 obtain ⟨p0, p1, p2, p3⟩ := cells4 hga
 have cN := Lib.hid (fun x (hx : x < k) => by
  obtain ⟨b1', o1', c1', b2, o2, c2, b3, o3, c3, e, h1, h2, h3⟩ := ra.num ok hx hi hj
  simp only [Value.slice.injEq, Option.some.injEq, Addr.mk.injEq, and_true, true_and] at e
  obtain ⟨⟨rfl, rfl⟩, rfl⟩ := e
  exact (⟨b2, o2, c2, b3, o3, c3, h1, h2, h3⟩ : ∃ b2 o2 c2 b3 o3 c3, W.cell? ⟨b1, o1 + x, none⟩ = some (.slice (some ⟨b2, o2, none⟩) n c2) ∧ W.cell? ⟨b2, o2 + i, none⟩ = some (.slice (some ⟨b3, o3, none⟩) n c3) ∧ W.cell? ⟨b3, o3 + j, none⟩ = some (.int .i64 (G3 a x i j))))
 have hbd := Lib.hid (fun x => ok.G3_bd x i j)
 have hE : Hid (sumE a i j = psum (fun x => G3 a x i j) k % 65521) := Lib.hid (by rw [sumE, ok.steps])
 have hps : Hid (∀ q, psum (fun x => G3 a x i j) (q + 1) = psum (fun x => G3 a x i j) q + G3 a q i j) := Lib.hid (fun q => rfl)
 have hpb : Hid (∀ q, 0 ≤ psum (fun x => G3 a x i j) q ∧ psum (fun x => G3 a x i j) q ≤ 65521 * (q : Int)) := Lib.hid (fun q => by
  induction q with
  | zero => exact ⟨Int.le_refl _, by simp [psum]⟩
  | succ q ih =>
   rw [hps.out q]
   have := hbd.out q
   omega)
 have i1 : (i : Int) < (n : Int) := by omega
 have j1 : (j : Int) < (n : Int) := by omega
 have i0 : (0 : Int) ≤ (i : Int) := by omega
 have j0 : (0 : Int) ≤ (j : Int) := by omega
 clear ra ok
 go_enter Tryd.func64, Tryd.ntmps64
 go_wp2
 go_loop [6, 12] (fun s x => ∃ q : Nat, q ≤ k ∧ x = .int .i64 q ∧ s = .int .i64 (psum (fun x => G3 a x i j) q)) (fun _ x => k - (intOf x).toNat)
 case atStart => exact ⟨0, Nat.zero_le _, rfl, rfl⟩
 case round =>
  obtain ⟨q, hq, rfl, rfl⟩ := hrel
  have hp := hpb.out q
  by_cases hlt : q < k
  ·obtain ⟨b2, o2, c2, b3, o3, c3, h1, h2, h3⟩ := cN.out q hlt
   have h4 := hps.out q
   have h5 := hbd.out q
   replace h4 := Lib.hid h4
   generalize psum (fun x => G3 a x i j) q = S at *
   generalize G3 a q i j = v at *
   have y1 : (q : Int) < (k : Int) := by omega
   have y0 : (0 : Int) ≤ (q : Int) := by omega
   go_wp2
   go_round
   case rel => exact ⟨q + 1, by omega, by go_num, by rw [h4.out]⟩
   case measure => simp [intOf]; omega
  ·obtain rfl : q = k := by omega
   generalize psum (fun x => G3 a x i j) q = S at *
   have h9 : S.tmod 65521 = S % 65521 := Int.tmod_eq_emod_of_nonneg (by omega)
   go_wp2
   go_ret
   exact ⟨by rw [hE.out]; rfl, Below.refl _ _⟩
def guardR (a : Aut) (p : Rule × Int) : Rule × Int := if checkA a = 0 then p else (rule0, checkA a)
def lengthsP (a : Aut) : Rule × Int := guardR a (leastR (termsA (lenA a a.start.length) a.start.length))
def ruleP (a : Aut) : Rule × Int := guardR a (if a.letters = 1 then leastR (termsA a a.start.length) else (rule0, 3))
theorem RuleA_any (a : Aut) (s e t : Value) (w : World) (ra : RdA w s e t a) :
  Calls Tryd.prog 23 #[.agg #[.int .i64 a.letters, s, e, t]] w (RuleOut (ruleP a) w) := by
 obtain ⟨As, cs, rfl, -, -⟩ := ra.start.cell_
 obtain ⟨Ae, ce, rfl, -, -⟩ := ra.end_.cell_
 obtain ⟨At, ct, rfl, -, -⟩ := RdS.open_ ([] : List (List Int)) ra.steps
 have hck := Lib.hid (fun W (hW : Below w.heap.size w W) => CheckA_any a _ _ _ W (ra.below hW (Nat.le_refl _)))
 by_cases h0 : checkA a = 0
 ·obtain ⟨k0, ok, h12, hk0⟩ := checkA_ex h0
  have hrr : ruleP a = if a.letters = 1 then leastR (termsA a a.start.length) else (rule0, 3) := if_pos h0
  rw [h0] at hck
  by_cases hl : a.letters = 1
  ·obtain rfl : k0 = 1 := by omega
   have hru := Lib.hid (fun W (hW : Below w.heap.size w W) => serRule_any ok (by omega) _ _ _ W (ra.below hW (Nat.le_refl _)))
   have hr : Hid (ruleP a = leastR (termsA a a.start.length)) := Lib.hid (hrr.trans (if_pos hl))
   rw [hl] at hck ⊢
   clear ra ok h0 hrr
   generalize ruleP a = R at *
   generalize leastR (termsA a a.start.length) = p at *
   generalize a.start.length = n at *
   generalize a.end_.length = m at *
   generalize a.steps.length = k at *
   clear hk0 h12 hl
   obtain ⟨x0, x1, hz, hB⟩ := two0 w (.cells #[.int .i64 1, .slice As n cs, .slice Ae m ce, .slice At k ct] 25) (.cells #[.slice none 0 0, .slice none 0 0] 41)
   go_enter Tryd.func23, Tryd.ntmps23
   go_wp2_with fail
   generalize ((w.alloc (.cells #[.int .i64 1, .slice As n cs, .slice Ae m ce, .slice At k ct] 25)).alloc (.cells #[.slice none 0 0, .slice none 0 0] 41)) = X at *
   refine (hck.out X hB).mono ?_; rintro e W1 ⟨rfl, hb⟩
   have hB1 := Lib.hid (Below.then_ hB hb)
   replace x0 := (hb.block w.heap.size (by omega)).trans x0
   replace x1 := (hb.block (w.heap.size + 1) (by omega)).trans x1
   obtain ⟨q0, q1, q2, q3⟩ := cells4 x0
   clear hb hB
   go_wp2_with fail
   refine (hru.out W1 hB1.out).mono ?_; rintro e W2 ⟨v, rfl, ⟨a1, b1, rfl, oa, ob⟩, hb2⟩
   obtain ⟨A7, c7, rfl⟩ := own_form oa
   obtain ⟨A8, c8, rfl⟩ := own_form ob
   have hl1 := lt_of_block x1
   have hg := (hb2.block _ (lt_of_block x1)).trans x1
   obtain ⟨p0, p1, p2, p3⟩ := ret_cell hg
   have hB2 := Lib.hid (Below.then_ hB1.out hb2)
   replace hg := Lib.hid hg
   replace oa := Lib.hid oa
   replace ob := Lib.hid ob
   clear hb2
   obtain ⟨rr, er⟩ := p
   simp only [] at oa ob ⊢
   go_wp2
   refine bodyPost_ret (res_ct rfl _ _ (w.heap.size + 1) 41 #[.slice A7 rr.by_.length c7, .slice A8 rr.start.length c8] (0, 0) _ rfl (heap_set2 _ _ hg.out) rfl rfl rfl) rfl ?_
   rw [hr.out]
   exact ⟨_, rfl, ⟨_, _, rfl, own_two oa.out (by omega) (by omega) _ _, own_two ob.out (by omega) (by omega) _ _⟩, (hB2.out.setCell (p := ⟨w.heap.size + 1, 0, none⟩) (by simp) _).setCell (p := ⟨w.heap.size + 1, 1, none⟩) (by simp) _⟩
  ·have hr : Hid (ruleP a = (rule0, 3)) := Lib.hid (hrr.trans (if_neg hl))
   have hln : (a.letters != 1) = true := by rw [bne_iff_ne]; exact hl
   clear ra ok h0 hrr hk0
   generalize ruleP a = R at *
   generalize a.letters = L at *
   generalize a.start.length = n at *
   generalize a.end_.length = m at *
   generalize a.steps.length = k at *
   obtain ⟨x0, x1, hz, hB⟩ := two0 w (.cells #[.int .i64 L, .slice As n cs, .slice Ae m ce, .slice At k ct] 25) (.cells #[.slice none 0 0, .slice none 0 0] 41)
   go_enter Tryd.func23, Tryd.ntmps23
   go_wp2_with fail
   generalize ((w.alloc (.cells #[.int .i64 L, .slice As n cs, .slice Ae m ce, .slice At k ct] 25)).alloc (.cells #[.slice none 0 0, .slice none 0 0] 41)) = X at *
   refine (hck.out X hB).mono ?_; rintro e W1 ⟨rfl, hb⟩
   have hB1 := Lib.hid (Below.then_ hB hb)
   replace x0 := (hb.block w.heap.size (by omega)).trans x0
   replace x1 := (hb.block (w.heap.size + 1) (by omega)).trans x1
   obtain ⟨q0, q1, q2, q3⟩ := cells4 x0
   obtain ⟨p0, p1, p2, p3⟩ := ret_cell x1
   replace x1 := Lib.hid x1
   clear hb hB
   go_wp2
   refine bodyPost_ret (res_ct rfl _ _ (w.heap.size + 1) 41 #[.slice none 0 0, .slice none 0 0] (0, 0) _ rfl (heap_set2 _ _ x1.out) rfl rfl rfl) rfl ?_
   rw [hr.out]
   exact ⟨_, rfl, ⟨_, _, rfl, OwnI_nil _ _, OwnI_nil _ _⟩, (hB1.out.setCell (p := ⟨w.heap.size + 1, 0, none⟩) (by simp) _).setCell (p := ⟨w.heap.size + 1, 1, none⟩) (by simp) _⟩
 ·have hr : Hid (ruleP a = (rule0, checkA a)) := Lib.hid (if_neg h0)
  have hne : (checkA a != 0) = true := by rw [bne_iff_ne]; exact h0
  clear ra
  generalize ruleP a = R at *
  generalize checkA a = er at *
  generalize a.letters = L at *
  generalize a.start.length = n at *
  generalize a.end_.length = m at *
  generalize a.steps.length = k at *
  obtain ⟨x0, x1, hz, hB⟩ := two0 w (.cells #[.int .i64 L, .slice As n cs, .slice Ae m ce, .slice At k ct] 25) (.cells #[.slice none 0 0, .slice none 0 0] 41)
  go_enter Tryd.func23, Tryd.ntmps23
  go_wp2_with fail
  generalize ((w.alloc (.cells #[.int .i64 L, .slice As n cs, .slice Ae m ce, .slice At k ct] 25)).alloc (.cells #[.slice none 0 0, .slice none 0 0] 41)) = X at *
  refine (hck.out X hB).mono ?_; rintro e W1 ⟨rfl, hb⟩
  have hB1 := Lib.hid (Below.then_ hB hb)
  replace x1 := (hb.block (w.heap.size + 1) (by omega)).trans x1
  obtain ⟨p0, p1, p2, p3⟩ := ret_cell x1
  replace x1 := Lib.hid x1
  clear hb hB x0
  go_wp2
  refine bodyPost_ret (res_ct rfl _ _ (w.heap.size + 1) 41 #[.slice none 0 0, .slice none 0 0] (0, 0) _ rfl (heap_set2 _ _ x1.out) rfl rfl rfl) rfl ?_
  rw [hr.out]
  exact ⟨_, rfl, ⟨_, _, rfl, OwnI_nil _ _, OwnI_nil _ _⟩, (hB1.out.setCell (p := ⟨w.heap.size + 1, 0, none⟩) (by simp) _).setCell (p := ⟨w.heap.size + 1, 1, none⟩) (by simp) _⟩
end Go.Proofs.YtlpldfocljnpnaaDoor
namespace Go.Proofs.YtlpldfocljnpnaaDoor
open Go.RowKit Go.Shelf
theorem OwnM.frameT {W W' : World} {B : Nat} {u : Value} {m : List (List Int)} {F : Nat → Prop} (o : OwnM W B u m) (hf : Frame F W W') (hn : ∀ q cs T, F q → W.heap[q]? = some (.cells cs T (0, 0)) → T ≠ 3 ∧ T ≠ 22) : OwnM W' B u m := by
 obtain ⟨vs, h⟩ := o.v
 refine (h.frame hf fun v hv q hq hF => ?_).m
 rcases List.mem_cons.1 hv with rfl | hv
 ·obtain ⟨cs, hcs⟩ := own_ty h.outer hq
  exact (hn q cs _ hF hcs).2 rfl
 ·obtain ⟨j, hj, rfl⟩ := List.getElem_of_mem hv
  obtain ⟨cs, hcs⟩ := own_ty (h.rows j _ _ (List.getElem?_eq_getElem (by have := h.len; omega)) (List.getElem?_eq_getElem hj)) hq
  exact (hn q cs _ hF hcs).1 rfl
theorem rdT_set {W : World} {B g : Nat} {u : Value} {m : List (List Int)} {cs : Array Value} (o : OwnM W B u m) (hz : W.heap[g]? = some (.cells cs 25 (0, 0))) (hm : m.length ≤ 1000000) (hr : ∀ r ∈ m, r.length ≤ 1000000) (a b : Value) :
  RdT (((W.alloc (.cells #[u] 59)).setCell ⟨g, 0, none⟩ a).setCell ⟨g, 3, none⟩ b) (.slice (some ⟨W.heap.size, 0, none⟩) 1 1) [m] ∧ Frame (fun q => q = g) (W.alloc (.cells #[u] 59)) (((W.alloc (.cells #[u] 59)).setCell ⟨g, 0, none⟩ a).setCell ⟨g, 3, none⟩ b) := by
 have hal : Below W.heap.size W (W.alloc (.cells #[u] 59)) := (Below.refl _ _).alloc (Nat.le_refl _) _
 have hF : Frame (fun q => q = g) (W.alloc (.cells #[u] 59)) (((W.alloc (.cells #[u] 59)).setCell ⟨g, 0, none⟩ a).setCell ⟨g, 3, none⟩ b) := (Frame.setCell (F := fun q => q = g) _ g 0 a rfl).trans (Frame.setCell (F := fun q => q = g) _ g 3 b rfl) (fun _ h => .inl h)
 have hz' := heap_keep hz hal
 have ho := (o.below hal).frameT hF (fun q cs' T hq hT => by
  subst hq
  rw [hz'] at hT
  cases hT
  exact ⟨by decide, by decide⟩)
 have hrd := ho.rd (by omega) (fun r hr' => by have := hr r hr'; omega)
 have hg := lt_of_block hz
 have hc := hF.cell (a := ⟨W.heap.size, 0, none⟩) (cell_new W u 59) (show ¬ W.heap.size = g by omega)
 refine ⟨⟨[u], ⟨_, 1, rfl, Nat.le_refl _, by simp, fun _ => ⟨_, 0, rfl, fun j x hj => ?_⟩⟩, rfl, fun j x v hx hv => ?_⟩, hF⟩
 ·match j, hj with
  | 0, hj => cases hj; exact hc
 ·match j, hx, hv with
  | 0, hx, hv => cases hx; cases hv; exact hrd
theorem LengthsA_any (a : Aut) (s e t : Value) (w : World) (ra : RdA w s e t a) :
  Calls Tryd.prog 22 #[.agg #[.int .i64 a.letters, s, e, t]] w (RuleOut (lengthsP a) w) := by
 obtain ⟨As, cs, rfl, -, -⟩ := ra.start.cell_
 obtain ⟨Ae, ce, rfl, -, -⟩ := ra.end_.cell_
 obtain ⟨At, ct, rfl, -, -⟩ := RdS.open_ ([] : List (List Int)) ra.steps
 have hck := Lib.hid (fun W (hW : Below w.heap.size w W) => CheckA_any a _ _ _ W (ra.below hW (Nat.le_refl _)))
 by_cases h0 : checkA a = 0
 ·obtain ⟨k0, ok, h12, hk0⟩ := checkA_ex h0
  have hr : Hid (lengthsP a = leastR (termsA (lenA a a.start.length) a.start.length)) := Lib.hid (if_pos h0)
  have hru := Lib.hid (fun s e t W (h : RdA W s e t (lenA a a.start.length)) => serRule_any (lenA_ok ok) (by omega) s e t W h)
  have hmx := Lib.hid (fun (ga : Nat) (l : Int) W (hW : Below w.heap.size w W) (hga : W.heap[ga]? = some (.cells #[.int .i64 l, .slice As a.start.length cs, .slice Ae a.end_.length ce, .slice At a.steps.length ct] 25 (0, 0))) => mtx_any (sumE a) a.start.length 64 #[.pointer (some ⟨ga, 0, none⟩)] (enters_of Tryd.func64 (by kernel_rfl) rfl) W (by omega) (fun W2 i j hB2 hi hj => Lengths_1 ok _ _ _ ga i j hi hj l W2 (ra.below (hW.trans (hB2.mono hW.size)) (Nat.le_refl _)) ((hB2.block _ (lt_of_block hga)).trans hga)))
  have hst := Lib.hid (fun W (hW : Below w.heap.size w W) => ra.start.below hW (Nat.le_refl _))
  have hen := Lib.hid (fun W (hW : Below w.heap.size w W) => ra.end_.below hW (Nat.le_refl _))
  have hwi := Lib.hid (fun W => with_any a.letters As Ae At As Ae a.start.length a.end_.length a.steps.length a.start.length a.end_.length cs ce ct cs ce W)
  have hla : Hid (lenA a a.start.length = ⟨1, a.start, a.end_, [mat (sumE a) a.start.length a.start.length]⟩) := Lib.hid rfl
  have hn12 : a.start.length ≤ 12 := h12
  rw [h0] at hck
  clear ra ok h0 hk0 h12
  generalize lengthsP a = R at *
  generalize leastR (termsA (lenA a a.start.length) a.start.length) = p at *
  generalize a.letters = L at *
  generalize hS : a.start = S at *
  generalize hE : a.end_ = E at *
  generalize S.length = n at *
  generalize E.length = m at *
  generalize a.steps.length = k at *
  replace hS := Lib.hid hS
  replace hE := Lib.hid hE
  obtain ⟨x0, x1, hz, hB⟩ := two0 w (.cells #[.int .i64 L, .slice As n cs, .slice Ae m ce, .slice At k ct] 25) (.cells #[.slice none 0 0, .slice none 0 0] 41)
  go_enter Tryd.func22, Tryd.ntmps22
  go_wp2_with fail
  generalize ((w.alloc (.cells #[.int .i64 L, .slice As n cs, .slice Ae m ce, .slice At k ct] 25)).alloc (.cells #[.slice none 0 0, .slice none 0 0] 41)) = X at *
  refine (hck.out X hB).mono ?_; rintro e W1 ⟨rfl, hb⟩
  have hB1 := Lib.hid (Below.then_ hB hb)
  replace x0 := (hb.block w.heap.size (by omega)).trans x0
  replace x1 := (hb.block (w.heap.size + 1) (by omega)).trans x1
  obtain ⟨q0, q1, q2, q3⟩ := cells4 x0
  clear hb hB hck
  go_wp2_with fail
  refine (hwi.out W1).mono ?_; rintro e W2 ⟨rfl, hb2⟩
  have hw2 : w.heap.size + 1 < W2.heap.size := Nat.lt_of_lt_of_le (lt_of_block x1) hb2.size
  have hX5 : Below W2.heap.size W2 (W2.alloc (.cells #[.int .i64 L, .slice As n cs, .slice Ae m ce, .slice At k ct] 25)) := (Below.refl _ _).alloc (Nat.le_refl _) _
  have hb5 := Below.then_ hb2 hX5
  have x5 := heap_alloc_new W2 (.cells #[.int .i64 L, .slice As n cs, .slice Ae m ce, .slice At k ct] 25)
  replace x0 := heap_keep x0 hb5
  replace x1 := heap_keep x1 hb5
  have hB5 := Lib.hid (Below.then_ hB1.out hb5)
  have hzX : W2.heap.size < (W2.alloc (.cells #[.int .i64 L, .slice As n cs, .slice Ae m ce, .slice At k ct] 25)).heap.size := by simp
  clear hb2 hb5 hX5 hwi
  go_upto_region 5 with fail
  generalize W2.alloc (.cells #[.int .i64 L, .slice As n cs, .slice Ae m ce, .slice At k ct] 25) = W3 at *
  generalize W2.heap.size = g5 at *
  have hm3 := Lib.hid (hmx.out w.heap.size L W3 hB5.out x0)
  obtain ⟨q0, q1, q2, q3⟩ := cells4 x0
  clear hmx
  go_wp2_with fail
  refine hm3.out.mono ?_; rintro e W4 ⟨⟨v, rfl, o4⟩, hb4⟩
  obtain ⟨A4, c4, e4⟩ := o4.form
  rw [mat_len] at e4
  subst e4
  replace x5 := heap_keep x5 hb4
  replace x1 := heap_keep x1 hb4
  have hB6 := Lib.hid (Below.then_ hB5.out hb4)
  have hz4 := hb4.size
  obtain ⟨t0, t1, t2, t3⟩ := cells4 x5
  obtain ⟨f0, f1, f2, f3⟩ := frozen4 x5
  have ha4 : ∀ o, (W4.alloc (.cells #[.slice A4 n c4] 59)).cell? ⟨g5, o, none⟩ = W4.cell? ⟨g5, o, none⟩ := fun o => ((Below.refl W4.heap.size W4).alloc (Nat.le_refl _) _).cell (p := ⟨g5, o, none⟩) (show g5 < W4.heap.size by omega)
  have t0' := (ha4 0).trans t0
  have t3' := (ha4 3).trans t3
  have hf4 : ∀ o, (W4.alloc (.cells #[.slice A4 n c4] 59)).frozen? ⟨g5, o, none⟩ = W4.frozen? ⟨g5, o, none⟩ := fun o => ((Below.refl W4.heap.size W4).alloc (Nat.le_refl _) _).frozen (p := ⟨g5, o, none⟩) (show g5 < W4.heap.size by omega)
  have f0' := (hf4 0).trans f0
  have f3' := (hf4 3).trans f3
  obtain ⟨hT, hF⟩ := rdT_set o4 x5 (by rw [mat_len]; omega) (fun r hr => by obtain ⟨i, -, rfl⟩ := List.mem_map.1 hr; simp; omega) (.int .i64 1) (.slice (some ⟨W4.heap.size, 0, none⟩) 1 1)
  have hal4 : Below W4.heap.size W4 (W4.alloc (.cells #[.slice A4 n c4] 59)) := (Below.refl _ _).alloc (Nat.le_refl _) _
  have x5a := heap_keep x5 hal4
  have x5b := heap_set1 (k := 3) (.slice (some ⟨W4.heap.size, 0, none⟩) 1 1) (heap_set1 (k := 0) (.int .i64 1) x5a)
  have hBY := Lib.hid ((Below.then_ hB6.out hal4).trans (hF.below (B := w.heap.size) (by have := hB6.out.size; simp; omega) (fun q hq => by omega)))
  have x1b := hF.heap (heap_keep x1 hal4) (by omega)
  replace hT := Lib.hid hT
  replace x5b := Lib.hid x5b
  replace x1b := Lib.hid x1b
  clear q0 q1 q2 q3 hm3 ha4 hf4 x5 x1 x5a o4 hal4 hF
  go_upto_region 6 with fail
  generalize (((W4.alloc (.cells #[.slice A4 n c4] 59)).setCell ⟨g5, 0, none⟩ (.int .i64 1)).setCell ⟨g5, 3, none⟩ (.slice (some ⟨W4.heap.size, 0, none⟩) 1 1)) = Y at *
  clear t0 t1 t2 t3 f0 f1 f2 f3 t0' t3' f0' f3'
  have x5c : Y.heap[g5]? = some (.cells #[.int .i64 1, .slice As n cs, .slice Ae m ce, .slice (some ⟨W4.heap.size, 0, none⟩) 1 1] 25 (0, 0)) := x5b.out
  obtain ⟨q0, q1, q2, q3⟩ := cells4 x5c
  have hcall := Lib.hid (hru.out (.slice As n cs) (.slice Ae m ce) (.slice (some ⟨W4.heap.size, 0, none⟩) 1 1) Y (by rw [hla.out]; exact ⟨hst.out Y hBY.out, hen.out Y hBY.out, hT.out⟩))
  clear x5c hru hst hen
  go_wp2_with fail
  refine hcall.out.mono ?_; rintro e Y2 ⟨v, rfl, ⟨a1, b1, rfl, oa, ob⟩, hb2⟩
  obtain ⟨A7, c7, rfl⟩ := own_form oa
  obtain ⟨A8, c8, rfl⟩ := own_form ob
  have hl1 := lt_of_block x1b.out
  have hg := (hb2.block _ (lt_of_block x1b.out)).trans x1b.out
  obtain ⟨p0, p1, p2, p3⟩ := ret_cell hg
  have hB2 := Lib.hid (Below.then_ hBY.out hb2)
  replace hg := Lib.hid hg
  replace oa := Lib.hid oa
  replace ob := Lib.hid ob
  clear hb2
  obtain ⟨rr, er⟩ := p
  simp only [] at oa ob ⊢
  go_wp2
  refine bodyPost_ret (res_ct rfl _ _ (w.heap.size + 1) 41 #[.slice A7 rr.by_.length c7, .slice A8 rr.start.length c8] (0, 0) _ rfl (heap_set2 _ _ hg.out) rfl rfl rfl) rfl ?_
  rw [hr.out]
  exact ⟨_, rfl, ⟨_, _, rfl, own_two oa.out (by omega) (by omega) _ _, own_two ob.out (by omega) (by omega) _ _⟩, (hB2.out.setCell (p := ⟨w.heap.size + 1, 0, none⟩) (by simp) _).setCell (p := ⟨w.heap.size + 1, 1, none⟩) (by simp) _⟩
 ·have hr : Hid (lengthsP a = (rule0, checkA a)) := Lib.hid (if_neg h0)
  have hne : (checkA a != 0) = true := by rw [bne_iff_ne]; exact h0
  clear ra
  generalize lengthsP a = R at *
  generalize checkA a = er at *
  generalize a.letters = L at *
  generalize a.start.length = n at *
  generalize a.end_.length = m at *
  generalize a.steps.length = k at *
  obtain ⟨x0, x1, hz, hB⟩ := two0 w (.cells #[.int .i64 L, .slice As n cs, .slice Ae m ce, .slice At k ct] 25) (.cells #[.slice none 0 0, .slice none 0 0] 41)
  go_enter Tryd.func22, Tryd.ntmps22
  go_wp2_with fail
  generalize ((w.alloc (.cells #[.int .i64 L, .slice As n cs, .slice Ae m ce, .slice At k ct] 25)).alloc (.cells #[.slice none 0 0, .slice none 0 0] 41)) = X at *
  refine (hck.out X hB).mono ?_; rintro e W1 ⟨rfl, hb⟩
  have hB1 := Lib.hid (Below.then_ hB hb)
  replace x1 := (hb.block (w.heap.size + 1) (by omega)).trans x1
  obtain ⟨p0, p1, p2, p3⟩ := ret_cell x1
  replace x1 := Lib.hid x1
  clear hb hB x0
  go_wp2
  refine bodyPost_ret (res_ct rfl _ _ (w.heap.size + 1) 41 #[.slice none 0 0, .slice none 0 0] (0, 0) _ rfl (heap_set2 _ _ x1.out) rfl rfl rfl) rfl ?_
  rw [hr.out]
  exact ⟨_, rfl, ⟨_, _, rfl, OwnI_nil _ _, OwnI_nil _ _⟩, (hB1.out.setCell (p := ⟨w.heap.size + 1, 0, none⟩) (by simp) _).setCell (p := ⟨w.heap.size + 1, 1, none⟩) (by simp) _⟩
end Go.Proofs.YtlpldfocljnpnaaDoor
namespace Go.Proofs.YtlpldfocljnpnaaDoor
open Go.RowKit Go.Shelf
def bt (ks : ByteArray) (i : Nat) : Nat := if h : i < ks.size then ks[i].toNat else 0
def badAt (l : Int) (ks : ByteArray) (i : Nat) : Bool := decide (bt ks i < 97) || decide (l ≤ (bt ks i : Int) - 97)
def wordN (ks : ByteArray) : List Nat := (List.range ks.size).map fun i => bt ks i - 97
noncomputable def weightP (a : Aut) (ks : ByteArray) : Int × Int :=
 if checkA a = 0 then (if 40 < ks.size then (0, 11) else if (List.range ks.size).any (badAt a.letters ks) = true then (0, 4) else (wtW a (wordN ks), 0)) else (0, checkA a)
theorem bt_get {ks : ByteArray} {i : Nat} (h : i < ks.size) : bt ks i = ks[i].toNat := by rw [bt, dif_pos h]
theorem wordB_wordN {ks : ByteArray} (h : ∀ i, i < ks.size → 97 ≤ bt ks i) : wordB (wordN ks) = ks := by
 obtain ⟨⟨l⟩⟩ := ks
 simp only [wordB, wordN]
 congr 1
 congr 1
 apply List.ext_getElem
 ·simp [ByteArray.size]
 ·intro i h1 h2
  have hi : i < (ByteArray.mk ⟨l⟩).size := by simpa [ByteArray.size] using h2
  simp only [List.getElem_map, List.getElem_range]
  have h3 := h i hi
  rw [show 97 + (bt ⟨⟨l⟩⟩ i - 97) = bt ⟨⟨l⟩⟩ i by omega, bt_get hi]
  show UInt8.ofNat (l[i]).toNat = l[i]
  simp
theorem wordN_lt {l : Int} {k : Nat} (hl : l = (k : Nat)) {ks : ByteArray} (h : ∀ i, i < ks.size → badAt l ks i = false) : (∀ i, i < ks.size → 97 ≤ bt ks i) ∧ ∀ x ∈ wordN ks, x < k := by
 refine ⟨fun i hi => ?_, fun x hx => ?_⟩
 ·have := h i hi
  unfold badAt at this
  simp at this
  omega
 ·obtain ⟨i, hi, rfl⟩ := List.mem_map.1 hx
  have := h i (List.mem_range.1 hi)
  unfold badAt at this
  simp at this
  omega
theorem WeightA_any (a : Aut) (ks : ByteArray) (s e t : Value) (w : World) (ra : RdA w s e t a) (hks : ks.size ≤ 1000000) :
  Calls Tryd.prog 21 #[.agg #[.int .i64 a.letters, s, e, t], .string ks] w fun r w' => r = .returned (.tuple #[.int .i64 (weightP a ks).1, .int .i64 (weightP a ks).2]) ∧ Below w.heap.size w w' := by
 obtain ⟨As, cs, rfl, -, -⟩ := ra.start.cell_
 obtain ⟨Ae, ce, rfl, -, -⟩ := ra.end_.cell_
 obtain ⟨At, ct, rfl, -, -⟩ := RdS.open_ ([] : List (List Int)) ra.steps
 have hck := Lib.hid (fun W (hW : Below w.heap.size w W) => CheckA_any a _ _ _ W (ra.below hW (Nat.le_refl _)))
 by_cases h0 : checkA a = 0
 ·obtain ⟨k0, ok, h12, hk0⟩ := checkA_ex h0
  have hwt := Lib.hid (fun (hh : ∀ i, i < ks.size → badAt a.letters ks i = false) (hm : ks.size ≤ 40) W (hW : Below w.heap.size w W) => by
   obtain ⟨g1, g2⟩ := wordN_lt hk0 hh
   have := weight_any ok (by omega) (wordN ks) g2 (by simp [wordN]; omega) _ _ _ W (ra.below hW (Nat.le_refl _))
   rw [wordB_wordN g1] at this
   exact this)
  have hr : weightP a ks = (if 40 < ks.size then (0, 11) else if (List.range ks.size).any (badAt a.letters ks) = true then (0, 4) else (wtW a (wordN ks), 0)) := if_pos h0
  rw [h0] at hck
  replace hr := Lib.hid hr
  rw [hk0] at hck hwt hr ⊢
  clear ra ok h0
  generalize weightP a ks = R at *
  generalize wtW a (wordN ks) = wt at *
  generalize a.start.length = n at *
  generalize a.end_.length = m at *
  generalize a.steps.length = k at *
  obtain ⟨hB, x0, hz⟩ := box4 w (.int .i64 (k0 : Nat)) (.slice As n cs) (.slice Ae m ce) (.slice At k ct) 25
  clear hk0 h12
  go_enter Tryd.func21, Tryd.ntmps21
  go_wp2_with fail
  generalize (w.alloc (.cells #[.int .i64 (k0 : Nat), .slice As n cs, .slice Ae m ce, .slice At k ct] 25)) = X at *
  refine (hck.out X hB).mono ?_; rintro e W1 ⟨rfl, hb⟩
  have hB1 := Lib.hid (Below.then_ hB hb)
  replace x0 := (hb.block w.heap.size (by omega)).trans x0
  have hz1 := hb.size
  obtain ⟨q0, q1, q2, q3⟩ := cells4 x0
  have hxW := Lib.hid (fun W (hW : Below W1.heap.size W1 W) => heap_keep x0 hW)
  have hz2 := hB1.out.size
  clear hb hB x0 hck
  by_cases h40 : 40 < ks.size
  ·have hr2 := Lib.hid (hr.out.trans (if_pos h40))
   have y1 : (40 : Int) < (ks.size : Int) := by omega
   go_wp2_with fail
   go_ret2
   exact ⟨by rw [hr2.out]; rfl, hB1.out⟩
  ·replace hr := Lib.hid (hr.out.trans (if_neg h40))
   have y1 : ¬ (40 : Int) < (ks.size : Int) := by omega
   have h40' := Lib.hid (show ks.size ≤ 40 by omega)
   go_wp2
   go_loopw [19] (fun i wr => ∃ q : Nat, q ≤ ks.size ∧ i = .int .i64 q ∧ Hid (∀ j, j < q → badAt (k0 : Nat) ks j = false) ∧ Hid (Below W1.heap.size W1 wr)) (fun i _ => ks.size - (intOf i).toNat)
   case atStart => exact ⟨0, Nat.zero_le _, rfl, Lib.hid (fun j hj => absurd hj (Nat.not_lt_zero j)), Lib.hid (Below.refl _ _)⟩
   case round =>
    obtain ⟨q, hq, rfl, hG, hB⟩ := hrel
    by_cases hlt : q < ks.size
    ·have hbt := bt_get hlt
     have y2 : (q : Int) < (ks.size : Int) := by omega
     have y0 : (0 : Int) ≤ (q : Int) := by omega
     have hx0 := hxW.out wr hB.out
     obtain ⟨q0, q1, q2, q3⟩ := cells4 hx0
     obtain ⟨x, hx⟩ : ∃ x, ks[q].toNat = x := ⟨_, rfl⟩
     have hxb : x < 256 := by rw [← hx]; exact UInt8.toNat_lt _
     rw [hx] at hbt
     have hB2 := Lib.hid (hB.out.drew)
     have HS : wr.drew.heap[w.heap.size]? = some (.cells #[.int .i64 (k0 : Nat), .slice As n cs, .slice Ae m ce, .slice At k ct] 25 (0, 0)) := hx0
     by_cases hlo : x < 97
     ·have hbad : badAt (k0 : Nat) ks q = true := by unfold badAt; rw [hbt]; simp [hlo]
      have hr2 := Lib.hid (hr.out.trans (if_pos (List.any_eq_true.2 ⟨q, List.mem_range.2 hlt, hbad⟩)))
      have z1 : (x : Int) < 97 := by omega
      replace hbt := Lib.hid hbt
      replace hbad := Lib.hid hbad
      clear hB
      go_wp2
      refine D_begin (fun w' => w'.heap[w.heap.size]? = some (.cells #[.int .i64 (k0 : Nat), .slice As n cs, .slice Ae m ce, .slice At k ct] 25 (0, 0))) (fun _ => True) 99 (by kernel_rfl) ?_
      change wpAnyD _ _ _ _ _ _ _ _ _ _ wr.drew
      simp only [List.size_toArray, List.length_cons, List.length_nil, Nat.reduceAdd, Array.replicate_succ, Array.replicate_zero, List.push_toArray, List.append_toArray, List.nil_append, List.cons_append]
      refine Dt 0 rfl ?_ HS (fun _ => trivial) ?_ ?_
      rotate_left; · intro w1 hw1; go_simp; try with_reducible rfl
      try simp only [Act.put, s_1, s_2, s_3, s_4, s_5, s_6]
      refine Dt 1 rfl ?_ HS (fun _ => trivial) ?_ ?_
      rotate_left; · intro w1 hw1; go_simp; try with_reducible rfl
      try simp only [Act.put, s_1, s_2, s_3, s_4, s_5, s_6]
      refine Dt 2 rfl ?_ HS (fun _ => trivial) ?_ ?_
      rotate_left; · intro w1 hw1; go_simp; try with_reducible rfl
      try simp only [Act.put, s_1, s_2, s_3, s_4, s_5, s_6]
      refine Dt 3 rfl ?_ HS (fun _ => trivial) ?_ ?_
      rotate_left; · intro w1 hw1; go_simp; try with_reducible rfl
      try simp only [Act.put, s_1, s_2, s_3, s_4, s_5, s_6]
      refine Dt 4 rfl ?_ HS (fun _ => trivial) ?_ ?_
      rotate_left; · intro w1 hw1; go_simp; try with_reducible rfl
      try simp only [Act.put, s_1, s_2, s_3, s_4, s_5, s_6]
      refine Du 5 rfl HS (fun _ => trivial) ?_
      try simp only [Act.put, s_1, s_2, s_3, s_4, s_5, s_6]
      refine Du 6 rfl HS (fun _ => trivial) ?_
      try simp only [Act.put, s_1, s_2, s_3, s_4, s_5, s_6]
      refine Du 7 rfl HS (fun _ => trivial) ?_
      try simp only [Act.put, s_1, s_2, s_3, s_4, s_5, s_6]
      refine Du 8 rfl HS (fun _ => trivial) ?_
      try simp only [Act.put, s_1, s_2, s_3, s_4, s_5, s_6]
      refine Du 9 rfl HS (fun _ => trivial) ?_
      try simp only [Act.put, s_1, s_2, s_3, s_4, s_5, s_6]
      refine Du 10 rfl HS (fun _ => trivial) ?_
      try simp only [Act.put, s_1, s_2, s_3, s_4, s_5, s_6]
      refine Du 11 rfl HS (fun _ => trivial) ?_
      try simp only [Act.put, s_1, s_2, s_3, s_4, s_5, s_6]
      refine Du 12 rfl HS (fun _ => trivial) ?_
      try simp only [Act.put, s_1, s_2, s_3, s_4, s_5, s_6]
      refine Dt 13 rfl ?_ HS (fun _ => trivial) ?_ ?_
      rotate_left; · intro w1 hw1; go_simp; try with_reducible rfl
      try simp only [Act.put, s_1, s_2, s_3, s_4, s_5, s_6]
      refine D_done (by kernel_rfl) ?_ _
      clear q0 q1 q2 q3
      generalize wr.drew = wd at *
      go_wp2
      go_ret2
      exact ⟨by rw [hr2.out]; rfl, hB1.out.trans (hB2.out.mono hz2)⟩
     ·have z1 : ¬ (x : Int) < 97 := by omega
      have zb : decide ((x : Int) < 97) = false := decide_eq_false z1
      have w1 : IntKind.u8.wrap ((x : Int) - 97) = (x : Int) - 97 := by rw [IntKind.wrap_u8]; omega
      have w2 : IntKind.i64.wrap ((x : Int) - 97) = (x : Int) - 97 := IntWalk.i64_in _ ⟨by omega, by omega⟩
      by_cases hhi : (k0 : Int) ≤ (x : Int) - 97
      ·have hbad : badAt (k0 : Nat) ks q = true := by unfold badAt; rw [hbt]; simp [hhi]
       have hr2 := Lib.hid (hr.out.trans (if_pos (List.any_eq_true.2 ⟨q, List.mem_range.2 hlt, hbad⟩)))
       replace hbt := Lib.hid hbt
       replace hbad := Lib.hid hbad
       clear hB
       go_wp2
       refine D_begin (fun w' => w'.heap[w.heap.size]? = some (.cells #[.int .i64 (k0 : Nat), .slice As n cs, .slice Ae m ce, .slice At k ct] 25 (0, 0))) (fun _ => True) 99 (by kernel_rfl) ?_
       change wpAnyD _ _ _ _ _ _ _ _ _ _ wr.drew
       simp only [List.size_toArray, List.length_cons, List.length_nil, Nat.reduceAdd, Array.replicate_succ, Array.replicate_zero, List.push_toArray, List.append_toArray, List.nil_append, List.cons_append]
       refine Dt 0 rfl ?_ HS (fun _ => trivial) ?_ ?_
       rotate_left; · intro w1 hw1; obtain ⟨q0, q1, q2, q3⟩ := cells4 hw1; go_simp; try with_reducible rfl
       try simp only [Act.put, s_1, s_2, s_3, s_4, s_5, s_6]
       refine Dt 1 rfl ?_ HS (fun _ => trivial) ?_ ?_
       rotate_left; · intro w1 hw1; obtain ⟨q0, q1, q2, q3⟩ := cells4 hw1; go_simp; try with_reducible rfl
       try simp only [Act.put, s_1, s_2, s_3, s_4, s_5, s_6]
       refine Dt 2 rfl ?_ HS (fun _ => trivial) ?_ ?_
       rotate_left; · intro w1 hw1; obtain ⟨q0, q1, q2, q3⟩ := cells4 hw1; go_simp; try with_reducible rfl
       try simp only [Act.put, s_1, s_2, s_3, s_4, s_5, s_6]
       refine Dt 3 rfl ?_ HS (fun _ => trivial) ?_ ?_
       rotate_left; · intro w1 hw1; obtain ⟨q0, q1, q2, q3⟩ := cells4 hw1; go_simp; try with_reducible rfl
       try simp only [Act.put, s_1, s_2, s_3, s_4, s_5, s_6]
       refine Dt 4 rfl ?_ HS (fun _ => trivial) ?_ ?_
       rotate_left; · intro w1 hw1; obtain ⟨q0, q1, q2, q3⟩ := cells4 hw1; go_simp; try with_reducible rfl
       try simp only [Act.put, s_1, s_2, s_3, s_4, s_5, s_6]
       refine Dt 5 rfl ?_ HS (fun _ => trivial) ?_ ?_
       rotate_left; · intro w1 hw1; obtain ⟨q0, q1, q2, q3⟩ := cells4 hw1; go_simp; try with_reducible rfl
       try simp only [Act.put, s_1, s_2, s_3, s_4, s_5, s_6]
       refine Dt 6 rfl ?_ HS (fun _ => trivial) ?_ ?_
       rotate_left; · intro w1 hw1; obtain ⟨q0, q1, q2, q3⟩ := cells4 hw1; go_simp; try with_reducible rfl
       try simp only [Act.put, s_1, s_2, s_3, s_4, s_5, s_6]
       refine Dt 7 rfl ?_ HS (fun _ => trivial) ?_ ?_
       rotate_left; · intro w1 hw1; obtain ⟨q0, q1, q2, q3⟩ := cells4 hw1; go_simp; try with_reducible rfl
       try simp only [Act.put, s_1, s_2, s_3, s_4, s_5, s_6]
       refine Dt 8 rfl ?_ HS (fun _ => trivial) ?_ ?_
       rotate_left; · intro w1 hw1; obtain ⟨q0, q1, q2, q3⟩ := cells4 hw1; go_simp; try with_reducible rfl
       try simp only [Act.put, s_1, s_2, s_3, s_4, s_5, s_6]
       refine Dt 9 rfl ?_ HS (fun _ => trivial) ?_ ?_
       rotate_left; · intro w1 hw1; obtain ⟨q0, q1, q2, q3⟩ := cells4 hw1; go_simp; try with_reducible rfl
       try simp only [Act.put, s_1, s_2, s_3, s_4, s_5, s_6]
       refine Dt 10 rfl ?_ HS (fun _ => trivial) ?_ ?_
       rotate_left; · intro w1 hw1; obtain ⟨q0, q1, q2, q3⟩ := cells4 hw1; go_simp; try with_reducible rfl
       try simp only [Act.put, s_1, s_2, s_3, s_4, s_5, s_6]
       refine Dt 11 rfl ?_ HS (fun _ => trivial) ?_ ?_
       rotate_left; · intro w1 hw1; obtain ⟨q0, q1, q2, q3⟩ := cells4 hw1; go_simp; try with_reducible rfl
       try simp only [Act.put, s_1, s_2, s_3, s_4, s_5, s_6]
       refine Dt 12 rfl ?_ HS (fun _ => trivial) ?_ ?_
       rotate_left; · intro w1 hw1; obtain ⟨q0, q1, q2, q3⟩ := cells4 hw1; go_simp; try with_reducible rfl
       try simp only [Act.put, s_1, s_2, s_3, s_4, s_5, s_6]
       refine Dt 13 rfl ?_ HS (fun _ => trivial) ?_ ?_
       rotate_left; · intro w1 hw1; obtain ⟨q0, q1, q2, q3⟩ := cells4 hw1; go_simp; try with_reducible rfl
       try simp only [Act.put, s_1, s_2, s_3, s_4, s_5, s_6]
       refine D_done (by kernel_rfl) ?_ _
       clear q0 q1 q2 q3
       generalize wr.drew = wd at *
       go_wp2
       go_ret2
       exact ⟨by rw [hr2.out]; rfl, hB1.out.trans (hB2.out.mono hz2)⟩
      ·have zb2 : decide ((k0 : Int) ≤ (x : Int) - 97) = false := decide_eq_false hhi
       have hgood : badAt (k0 : Nat) ks q = false := by unfold badAt; rw [hbt]; simp; omega
       have hG2 := Lib.hid (show ∀ j, j < q + 1 → badAt (k0 : Nat) ks j = false from fun j hj => by
        by_cases e : j = q
        ·rw [e]; exact hgood
        ·exact hG.out j (by omega))
       replace hbt := Lib.hid hbt
       replace hgood := Lib.hid hgood
       clear hB
       go_wp2
       refine D_begin (fun w' => w'.heap[w.heap.size]? = some (.cells #[.int .i64 (k0 : Nat), .slice As n cs, .slice Ae m ce, .slice At k ct] 25 (0, 0))) (fun _ => True) 99 (by kernel_rfl) ?_
       change wpAnyD _ _ _ _ _ _ _ _ _ _ wr.drew
       simp only [List.size_toArray, List.length_cons, List.length_nil, Nat.reduceAdd, Array.replicate_succ, Array.replicate_zero, List.push_toArray, List.append_toArray, List.nil_append, List.cons_append]
       refine Dt 0 rfl ?_ HS (fun _ => trivial) ?_ ?_
       rotate_left; · intro w1 hw1; obtain ⟨q0, q1, q2, q3⟩ := cells4 hw1; go_simp; try with_reducible rfl
       try simp only [Act.put, s_1, s_2, s_3, s_4, s_5, s_6]
       refine Dt 1 rfl ?_ HS (fun _ => trivial) ?_ ?_
       rotate_left; · intro w1 hw1; obtain ⟨q0, q1, q2, q3⟩ := cells4 hw1; go_simp; try with_reducible rfl
       try simp only [Act.put, s_1, s_2, s_3, s_4, s_5, s_6]
       refine Dt 2 rfl ?_ HS (fun _ => trivial) ?_ ?_
       rotate_left; · intro w1 hw1; obtain ⟨q0, q1, q2, q3⟩ := cells4 hw1; go_simp; try with_reducible rfl
       try simp only [Act.put, s_1, s_2, s_3, s_4, s_5, s_6]
       refine Dt 3 rfl ?_ HS (fun _ => trivial) ?_ ?_
       rotate_left; · intro w1 hw1; obtain ⟨q0, q1, q2, q3⟩ := cells4 hw1; go_simp; try with_reducible rfl
       try simp only [Act.put, s_1, s_2, s_3, s_4, s_5, s_6]
       refine Dt 4 rfl ?_ HS (fun _ => trivial) ?_ ?_
       rotate_left; · intro w1 hw1; obtain ⟨q0, q1, q2, q3⟩ := cells4 hw1; go_simp; try with_reducible rfl
       try simp only [Act.put, s_1, s_2, s_3, s_4, s_5, s_6]
       refine Dt 5 rfl ?_ HS (fun _ => trivial) ?_ ?_
       rotate_left; · intro w1 hw1; obtain ⟨q0, q1, q2, q3⟩ := cells4 hw1; go_simp; try with_reducible rfl
       try simp only [Act.put, s_1, s_2, s_3, s_4, s_5, s_6]
       refine Dt 6 rfl ?_ HS (fun _ => trivial) ?_ ?_
       rotate_left; · intro w1 hw1; obtain ⟨q0, q1, q2, q3⟩ := cells4 hw1; go_simp; try with_reducible rfl
       try simp only [Act.put, s_1, s_2, s_3, s_4, s_5, s_6]
       refine Dt 7 rfl ?_ HS (fun _ => trivial) ?_ ?_
       rotate_left; · intro w1 hw1; obtain ⟨q0, q1, q2, q3⟩ := cells4 hw1; go_simp; try with_reducible rfl
       try simp only [Act.put, s_1, s_2, s_3, s_4, s_5, s_6]
       refine Dt 8 rfl ?_ HS (fun _ => trivial) ?_ ?_
       rotate_left; · intro w1 hw1; obtain ⟨q0, q1, q2, q3⟩ := cells4 hw1; go_simp; try with_reducible rfl
       try simp only [Act.put, s_1, s_2, s_3, s_4, s_5, s_6]
       refine Dt 9 rfl ?_ HS (fun _ => trivial) ?_ ?_
       rotate_left; · intro w1 hw1; obtain ⟨q0, q1, q2, q3⟩ := cells4 hw1; go_simp; try with_reducible rfl
       try simp only [Act.put, s_1, s_2, s_3, s_4, s_5, s_6]
       refine Dt 10 rfl ?_ HS (fun _ => trivial) ?_ ?_
       rotate_left; · intro w1 hw1; obtain ⟨q0, q1, q2, q3⟩ := cells4 hw1; go_simp; try with_reducible rfl
       try simp only [Act.put, s_1, s_2, s_3, s_4, s_5, s_6]
       refine Dt 11 rfl ?_ HS (fun _ => trivial) ?_ ?_
       rotate_left; · intro w1 hw1; obtain ⟨q0, q1, q2, q3⟩ := cells4 hw1; go_simp; try with_reducible rfl
       try simp only [Act.put, s_1, s_2, s_3, s_4, s_5, s_6]
       refine Dt 12 rfl ?_ HS (fun _ => trivial) ?_ ?_
       rotate_left; · intro w1 hw1; obtain ⟨q0, q1, q2, q3⟩ := cells4 hw1; go_simp; try with_reducible rfl
       try simp only [Act.put, s_1, s_2, s_3, s_4, s_5, s_6]
       refine Dt 13 rfl ?_ HS (fun _ => trivial) ?_ ?_
       rotate_left; · intro w1 hw1; obtain ⟨q0, q1, q2, q3⟩ := cells4 hw1; go_simp; try with_reducible rfl
       try simp only [Act.put, s_1, s_2, s_3, s_4, s_5, s_6]
       refine D_done (by kernel_rfl) ?_ _
       clear q0 q1 q2 q3
       generalize wr.drew = wd at *
       go_wp2
       go_roundw
       case rel => exact ⟨q + 1, by omega, by go_num, hG2, hB2⟩
       case measure => simp [intOf]; omega
    ·obtain rfl : q = ks.size := by omega
     have hr2 : Hid (R = (wt, 0)) := Lib.hid (hr.out.trans (if_neg (by
      rw [List.any_eq_true]
      rintro ⟨j, hj, hb⟩
      rw [hG.out j (List.mem_range.1 hj)] at hb
      cases hb)))
     have hcall := Lib.hid (hwt.out hG.out h40'.out wr (hB1.out.trans (hB.out.mono hz2)))
     obtain ⟨q0, q1, q2, q3⟩ := cells4 (hxW.out wr hB.out)
     have hBf := Lib.hid (hB1.out.trans (hB.out.mono hz2))
     clear hwt
     go_wp2_with fail
     refine hcall.out.mono ?_; rintro e W2 ⟨rfl, hb2⟩
     have hB3 := Lib.hid (Below.then_ hBf.out hb2)
     go_wp2
     go_ret2
     exact ⟨by rw [hr2.out]; rfl, hB3.out⟩
 ·have hr : Hid (weightP a ks = (0, checkA a)) := Lib.hid (if_neg h0)
  have hne : (checkA a != 0) = true := by rw [bne_iff_ne]; exact h0
  clear ra
  generalize weightP a ks = R at *
  generalize checkA a = er at *
  generalize a.letters = L at *
  generalize a.start.length = n at *
  generalize a.end_.length = m at *
  generalize a.steps.length = k at *
  obtain ⟨hB, x0, hz⟩ := box4 w (.int .i64 L) (.slice As n cs) (.slice Ae m ce) (.slice At k ct) 25
  go_enter Tryd.func21, Tryd.ntmps21
  go_wp2_with fail
  generalize (w.alloc (.cells #[.int .i64 L, .slice As n cs, .slice Ae m ce, .slice At k ct] 25)) = X at *
  refine (hck.out X hB).mono ?_; rintro e W1 ⟨rfl, hb⟩
  have hB1 := Lib.hid (Below.then_ hB hb)
  go_wp2_with fail
  go_ret2
  exact ⟨by rw [hr.out]; rfl, hB1.out⟩
end Go.Proofs.YtlpldfocljnpnaaDoor
namespace Go.Proofs.YtlpldfocljnpnaaDoor
instance : DecidableEq Aut := fun a b => decidable_of_iff (a.letters = b.letters ∧ a.start = b.start ∧ a.end_ = b.end_ ∧ a.steps = b.steps) ⟨fun ⟨h1, h2, h3, h4⟩ => by cases a; cases b; simp_all, fun h => by rw [h]; exact ⟨rfl, rfl, rfl, rfl⟩⟩
instance : DecidableEq Rule := fun a b => decidable_of_iff (a.by_ = b.by_ ∧ a.start = b.start) ⟨fun ⟨h1, h2⟩ => by cases a; cases b; simp_all, fun h => by rw [h]; exact ⟨rfl, rfl⟩⟩
def bfsF {α : Type} (new : List α → α → Bool) (kids : α → List α) : Nat → List α → List α → Option (List α)
 | _, out, [] => some out
 | 0, _, _ :: _ => none
 | n + 1, out, c :: todo => if new out c then bfsF new kids n (out ++ [c]) (todo ++ kids c) else bfsF new kids n out todo
theorem bfsF_of {α : Type} {new : List α → α → Bool} {kids : α → List α} : ∀ (n : Nat) (out todo : List α) {r : List α}, bfsF new kids n out todo = some r → Bfs new kids out todo r := by
 intro n
 induction n with
 | zero =>
  intro out todo r h
  cases todo with
  | nil => rw [bfsF] at h; rw [← Option.some.inj h]; exact .done out
  | cons c todo => rw [bfsF] at h; cases h
 | succ n ih =>
  intro out todo r h
  cases todo with
  | nil => rw [bfsF] at h; rw [← Option.some.inj h]; exact .done out
  | cons c todo =>
   rw [bfsF] at h
   cases e : new out c with
   | true => rw [e] at h; exact .take e (ih _ _ h)
   | false => rw [e] at h; exact .skip e (ih _ _ h)
def colsF (a : Aut) : Option (List (List Int)) := bfsF newC (kidsC a) 200 [] [a.end_]
def wordsF (a : Aut) (cols : List (List Int)) : Option (List (List Nat)) := bfsF (newS a cols) (kidsH a.steps.length) 200 [] [[]]
theorem colsA_val {a : Aut} {k n : Nat} (ok : okA a k n) {cols : List (List Int)} (h : colsF a = some cols) : colsA a = cols := Bfs.one (bfsF_of _ _ _ h) (colsA_of ok)
theorem wordsA_val {a : Aut} {k n : Nat} (ok : okA a k n) {cols : List (List Int)} (h : colsF a = some cols) {ws : List (List Nat)} (hw : wordsF a cols = some ws) : wordsA a = ws := by
 have := wordsA_of a
 rw [colsA_val ok h] at this
 exact Bfs.one (bfsF_of _ _ _ hw) this
def valF (a : Aut) : Option (List (List Nat) × Aut) := match colsF a with
 | none => none
 | some cols => match wordsF a cols with
  | none => none
  | some ws => some (ws, smallL a cols ws)
theorem valF_of {a : Aut} (h0 : checkA a = 0) {ws : List (List Nat)} {b : Aut} (h : valF a = some (ws, b)) : wordsA a = ws ∧ leastA a = b := by
 obtain ⟨ok, -, -⟩ := checkA_ok h0
 unfold valF at h
 cases hc : colsF a with
 | none => rw [hc] at h; cases h
 | some cols =>
  rw [hc] at h
  cases hw : wordsF a cols with
  | none => simp only [hw] at h; cases h
  | some ws' =>
   simp only [hw] at h
   cases h
   have h1 := colsA_val ok hc
   have h2 := wordsA_val ok hc hw
   exact ⟨h2, by unfold leastA; rw [h1, h2]⟩
theorem told_val {a b : Aut} (h0 : checkA a = 0) {ws : List (List Nat)} (h : valF a = some (ws, b)) (hn : ws.length ≤ 12) : toldA a = (b, 0) := by
 obtain ⟨h1, h2⟩ := valF_of h0 h
 unfold toldA
 rw [h1, if_pos hn, h2]
theorem chosen_val {a b : Aut} (h0 : checkA a = 0) {ws : List (List Nat)} (h : valF a = some (ws, b)) (hn : ws.length ≤ 12) : chosenP a = (ws, 0) := by
 obtain ⟨h1, -⟩ := valF_of h0 h
 unfold chosenP
 rw [h1, if_pos h0, if_pos hn]
def twoA : Aut := ⟨2, [1], [1], [[[2]], [[3]]]⟩
def countA : Aut := ⟨1, [1, 0], [0, 1], [[[1, 1], [0, 1]]]⟩
def fibA : Aut := ⟨1, [1, 0], [0, 1], [[[0, 1], [1, 1]]]⟩
def starIn : Aut := ⟨1, [1, 0], [0, 2], [[[0, 1], [0, 0]]]⟩
theorem v_chosen : chosenP countA = ([[], [0]], 0) := chosen_val (b := ⟨1, [1, 0], [0, 1], [[[0, 1], [65520, 2]]]⟩) (by decide +kernel) (by decide +kernel) (by decide)
theorem v_lengths : lengthsP countA = (⟨[2, 65520], [0, 1]⟩, 0) := by decide +kernel
theorem v_fib : ofRuleP fibR = (fibA, 0) := by
 unfold ofRuleP
 rw [if_pos (by decide +kernel), told_val (b := fibA) (ws := [[], [0]]) (by decide +kernel) (by decide +kernel) (by decide)]
theorem v_left : leftP twoA 1 = (⟨2, [1], [3], [[[2]], [[3]]]⟩, 0) := by
 unfold leftP guardA
 rw [if_pos (by decide +kernel), if_neg (by decide), told_val (b := ⟨2, [1], [3], [[[2]], [[3]]]⟩) (ws := [[]]) (by decide +kernel) (by decide +kernel) (by decide)]
theorem v_weight : weightP twoA ⟨#[97, 98, 98]⟩ = (18, 0) := by
 unfold weightP
 decide +kernel
def prodA : Aut := ⟨1, [1, 0, 0, 0], [0, 0, 1, 2], [[[0, 1, 0, 0], [0, 0, 1, 0], [0, 0, 0, 1], [65520, 65519, 1, 2]]]⟩
theorem v_product : joinP fibA fibA (afterA fibA fibA) = (prodA, 0) := by
 unfold joinP
 rw [if_pos (by decide +kernel), told_val (b := prodA) (ws := [[], [0], [0, 0], [0, 0, 0]]) (by decide +kernel) (by decide +kernel) (by decide)]
theorem v_weight4 : weightP prodA ⟨#[97, 97, 97, 97]⟩ = (5, 0) := by
 unfold weightP
 decide +kernel
def doubA : Aut := ⟨1, [1], [1], [[[2]]]⟩
theorem v_star : starP starIn = (doubA, 0) := by
 unfold starP guardA
 rw [if_pos (by decide +kernel), if_pos (by decide +kernel), told_val (b := doubA) (ws := [[]]) (by decide +kernel) (by decide +kernel) (by decide)]
theorem v_weight5 : weightP doubA ⟨#[97, 97, 97, 97, 97]⟩ = (32, 0) := by
 unfold weightP
 decide +kernel
end Go.Proofs.YtlpldfocljnpnaaDoor
namespace Go.Proofs.YtlpldfocljnpnaaDoor
open Go.RowKit Go.Shelf
theorem list17_any (xs ys : List Int) (v u : Value) (w : World) (hx : RdI w v xs) (hy : RdI w u ys) :
  Calls Tryd.prog 55 #[v, u] w fun e w' => e = .returned (.bool (decide (xs = ys))) ∧ Below w.heap.size w w' := by
 obtain ⟨A, c, rfl, h1, h2, h3⟩ := hx.open_
 obtain ⟨B, d, rfl, g1, g2, g3⟩ := hy.open_
 by_cases hl : xs.length = ys.length
 ·have hlen := Lib.hid hl
  replace h3 := Lib.hid h3
  replace g3 := Lib.hid g3
  clear hx hy
  rw [← hl] at g1 g2 g3 ⊢
  generalize hn : xs.length = n at *
  replace hn := Lib.hid hn
  clear hl
  go_enter Tryd.func55, Tryd.ntmps55
  go_wp2
  go_loopw [5] (fun i wr => ∃ k : Nat, k ≤ n ∧ i = .int .i64 k ∧ Hid (Below w.heap.size w wr) ∧ Hid (∀ j, j < k → xs.getD j 0 = ys.getD j 0)) (fun i _ => n - (intOf i).toNat)
  case atStart => exact ⟨0, Nat.zero_le _, rfl, Lib.hid (Below.refl _ _), Lib.hid (fun j hj => by omega)⟩
  case round =>
   obtain ⟨k, hk, rfl, hB, hE⟩ := hrel
   by_cases hlt : k < n
   ·obtain ⟨b0, off, rfl, hc⟩ := h3.out k hlt
    obtain ⟨b1, off1, rfl, hc1⟩ := g3.out k hlt
    replace hc := (hB.out.cell (p := ⟨b0, off + k, none⟩) (World.block_lt_of_cell? w _ hc)).trans hc
    replace hc1 := (hB.out.cell (p := ⟨b1, off1 + k, none⟩) (World.block_lt_of_cell? w _ hc1)).trans hc1
    have k1 : (k : Int) < (n : Int) := by omega
    have k0 : (0 : Int) ≤ (k : Int) := by omega
    have hBd := Lib.hid hB.out.drew
    by_cases he : xs.getD k 0 = ys.getD k 0
    ·have hE2 : Hid (∀ j, j < k + 1 → xs.getD j 0 = ys.getD j 0) := Lib.hid (fun j hj => by
      by_cases e : j = k
      ·rw [e]; exact he
      ·exact hE.out j (by omega))
     rw [he] at hc
     replace he := Lib.hid he
     generalize ys.getD k 0 = y at hc hc1
     go_wp2
     go_still_tail 8, (by kernel_rfl)
     change wpList _ _ _ _ _ wr.drew
     go_wp2
     go_roundw
     case rel => exact ⟨k + 1, by omega, by go_num, hBd, hE2⟩
     case measure => simp [intOf]; omega
    ·have hne : (xs.getD k 0 != ys.getD k 0) = true := by rw [bne_iff_ne]; exact he
     have hr : Hid (decide (xs = ys) = false) := Lib.hid (by rw [decide_eq_false_iff_not]; intro e; exact he (by rw [e]))
     replace he := Lib.hid he
     generalize xs.getD k 0 = x at hc hne
     generalize ys.getD k 0 = y at hc1 hne
     go_wp2
     go_still_tail 8, (by kernel_rfl)
     change wpList _ _ _ _ _ wr.drew
     go_wp2
     go_ret
     exact ⟨by rw [hr.out]; rfl, hBd.out⟩
   ·have hr : Hid (decide (xs = ys) = true) := Lib.hid (by rw [decide_eq_true_iff]; exact ext_getD (hn.out.trans hlen.out) (fun j hj => hE.out j (by have := hn.out; omega)))
    obtain rfl : k = n := by omega
    go_wp2
    go_ret
    exact ⟨by rw [hr.out]; rfl, hB.out⟩
 ·have hne : ((xs.length : Int) != (ys.length : Int)) = true := by rw [bne_iff_ne]; omega
  have hr : Hid (decide (xs = ys) = false) := Lib.hid (by rw [decide_eq_false_iff_not]; intro e; exact hl (by rw [e]))
  clear hx hy h3 g3
  generalize xs.length = n at *
  generalize ys.length = m at *
  go_enter Tryd.func55, Tryd.ntmps55
  go_wp2
  go_ret
  exact ⟨by rw [hr.out]; rfl, Below.refl _ _⟩
theorem toList_loop (b : ByteArray) : ∀ (n i : Nat) (r : List UInt8), b.size - i = n → ByteArray.toList.loop b i r = r.reverse ++ b.data.toList.drop i := by
 intro n
 induction n with
 | zero =>
  intro i r h
  rw [ByteArray.toList.loop, if_neg (by omega), List.drop_eq_nil_of_le (by show b.data.size ≤ i; have : b.size = b.data.size := rfl; omega), List.append_nil]
 | succ n ih =>
  intro i r h
  have hi : i < b.data.size := by have : b.size = b.data.size := rfl; omega
  rw [ByteArray.toList.loop, if_pos (by omega), ih _ _ (by omega), List.reverse_cons, List.append_assoc, List.drop_eq_getElem_cons (i := i) hi]
  have e : b.get! i = b.data[i] := by
   show b.data[i]! = _
   rw [getElem!_pos b.data i hi]
  rw [e]; rfl
theorem toList_data (b : ByteArray) : b.toList = b.data.toList := by
 rw [ByteArray.toList, toList_loop b _ 0 [] rfl]; rfl
theorem bne_text {a b : ByteArray} (h : ¬ a = b) : (a.toList == b.toList) = false := by
 rw [toList_data, toList_data, beq_eq_false_iff_ne]
 intro e
 obtain ⟨⟨x⟩⟩ := a
 obtain ⟨⟨y⟩⟩ := b
 exact h (by rw [show x = y from e])
theorem ext_getS {xs ys : List ByteArray} (hl : xs.length = ys.length) (h : ∀ j, j < xs.length → xs.getD j ByteArray.empty = ys.getD j ByteArray.empty) : xs = ys := by
 apply List.ext_getElem hl
 intro j h1 h2
 have := h j h1
 rwa [List.getD_eq_getElem?_getD, List.getD_eq_getElem?_getD, List.getElem?_eq_getElem h1, List.getElem?_eq_getElem h2] at this
theorem open_str {w : World} {v : Value} {xs : List ByteArray} (h : RdV w v (xs.map Value.string)) : ∃ (A : Option Addr) (c : Nat), v = .slice A xs.length c ∧ xs.length ≤ c ∧ xs.length ≤ 140737488355328 ∧
  Hid (∀ k, k < xs.length → ∃ b off, A = some ⟨b, off, none⟩ ∧ w.cell? ⟨b, off + k, none⟩ = some (.string (xs.getD k ByteArray.empty))) := by
 obtain ⟨A, c, e, h1, h2, h3⟩ := h
 rw [List.length_map] at e h1 h2 h3
 refine ⟨A, c, e, h1, h2, Lib.hid fun k hk => ?_⟩
 obtain ⟨b, off, e2, h4⟩ := h3 (by omega)
 exact ⟨b, off, e2, h4 k _ (by rw [List.getElem?_map, List.getD_eq_getElem?_getD, List.getElem?_eq_getElem hk]; rfl)⟩
theorem EqualS_any (xs ys : List ByteArray) (v u : Value) (w : World) (hx : RdV w v (xs.map Value.string)) (hy : RdV w u (ys.map Value.string)) :
  Calls Tryd.prog 16 #[v, u] w fun e w' => e = .returned (.bool (decide (xs = ys))) ∧ Below w.heap.size w w' := by
 obtain ⟨A, c, rfl, h1, h2, h3⟩ := open_str hx
 obtain ⟨B, d, rfl, g1, g2, g3⟩ := open_str hy
 by_cases hl : xs.length = ys.length
 ·have hlen := Lib.hid hl
  skip
  skip
  clear hx hy
  rw [← hl] at g1 g2 g3 ⊢
  generalize hn : xs.length = n at *
  replace hn := Lib.hid hn
  clear hl
  go_enter Tryd.func16, Tryd.ntmps16
  go_wp2
  go_loopw [13] (fun i wr => ∃ k : Nat, k ≤ n ∧ i = .int .i64 k ∧ Hid (Below w.heap.size w wr) ∧ Hid (∀ j, j < k → xs.getD j ByteArray.empty = ys.getD j ByteArray.empty)) (fun i _ => n - (intOf i).toNat)
  case atStart => exact ⟨0, Nat.zero_le _, rfl, Lib.hid (Below.refl _ _), Lib.hid (fun j hj => by omega)⟩
  case round =>
   obtain ⟨k, hk, rfl, hB, hE⟩ := hrel
   by_cases hlt : k < n
   ·obtain ⟨b0, off, rfl, hc⟩ := h3.out k hlt
    obtain ⟨b1, off1, rfl, hc1⟩ := g3.out k hlt
    replace hc := (hB.out.cell (p := ⟨b0, off + k, none⟩) (World.block_lt_of_cell? w _ hc)).trans hc
    replace hc1 := (hB.out.cell (p := ⟨b1, off1 + k, none⟩) (World.block_lt_of_cell? w _ hc1)).trans hc1
    have k1 : (k : Int) < (n : Int) := by omega
    have k0 : (0 : Int) ≤ (k : Int) := by omega
    have hBd := Lib.hid hB.out.drew
    by_cases he : xs.getD k ByteArray.empty = ys.getD k ByteArray.empty
    ·have hE2 : Hid (∀ j, j < k + 1 → xs.getD j ByteArray.empty = ys.getD j ByteArray.empty) := Lib.hid (fun j hj => by
      by_cases e : j = k
      ·rw [e]; exact he
      ·exact hE.out j (by omega))
     rw [he] at hc
     replace he := Lib.hid he
     generalize ys.getD k ByteArray.empty = y at hc hc1
     go_wp2
     go_still_tail 8, (by kernel_rfl)
     change wpList _ _ _ _ _ wr.drew
     go_wp2
     go_roundw
     case rel => exact ⟨k + 1, by omega, by go_num, hBd, hE2⟩
     case measure => simp [intOf]; omega
    ·have hne : ((xs.getD k ByteArray.empty).toList == (ys.getD k ByteArray.empty).toList) = false := bne_text he
     have hr : Hid (decide (xs = ys) = false) := Lib.hid (by rw [decide_eq_false_iff_not]; intro e; exact he (by rw [e]))
     replace he := Lib.hid he
     generalize xs.getD k ByteArray.empty = x at hc hne
     generalize ys.getD k ByteArray.empty = y at hc1 hne
     go_wp2
     go_still_tail 8, (by kernel_rfl)
     change wpList _ _ _ _ _ wr.drew
     go_wp2
     go_ret
     exact ⟨by rw [hr.out]; rfl, hBd.out⟩
   ·have hr : Hid (decide (xs = ys) = true) := Lib.hid (by rw [decide_eq_true_iff]; exact ext_getS (hn.out.trans hlen.out) (fun j hj => hE.out j (by have := hn.out; omega)))
    obtain rfl : k = n := by omega
    go_wp2
    go_ret
    exact ⟨by rw [hr.out]; rfl, hB.out⟩
 ·have hne : ((xs.length : Int) != (ys.length : Int)) = true := by rw [bne_iff_ne]; omega
  have hr : Hid (decide (xs = ys) = false) := Lib.hid (by rw [decide_eq_false_iff_not]; intro e; exact hl (by rw [e]))
  clear hx hy h3 g3
  generalize xs.length = n at *
  generalize ys.length = m at *
  go_enter Tryd.func16, Tryd.ntmps16
  go_wp2
  go_ret
  exact ⟨by rw [hr.out]; rfl, Below.refl _ _⟩
end Go.Proofs.YtlpldfocljnpnaaDoor
