/- Layer 17 Layer 17 The library's functions on slices of matrices that take a function; every Layer 17 -/
import Derived.Test.YtlpldfocljnpnaaDoorKah
import Derived.Test.YtlpldfocljnpnaaDoorKag
import Derived.Test.YtlpldfocljnpnaaDoorKad
import Derived.Test.YtlpldfocljnpnaaDoorKaf
import Derived.Test.YtlpldfocljnpnaaDoorKac
import Derived.Test.YtlpldfocljnpnaaDoorKae
set_option maxRecDepth 100000
set_option maxHeartbeats 6400000
set_option linter.unusedSimpArgs false
namespace Go.Proofs.YtlpldfocljnpnaaDoor
open Go.RowKit Go.Shelf
attribute [local go_sem] Oper.semAt_some
def LeaR (a : Aut) (F : List Nat → Nat → List Int) (ws : List (List Nat)) (k : Nat) (U : World) (g6 g8 q q2 y : Nat) (v : Value) (wr : World) : Prop :=
 ∃ vs ve us, LeaS U g6 g8 k vs ve v us (stW q2) ((ws.take q2).map (wtW a)) (spW F ws k q y) ((ws.take q2).map fun w => .string (wordB w)) wr
theorem enW_len (a : Aut) (ws : List (List Nat)) {q : Nat} (h : q ≤ ws.length) : ((ws.take q).map (wtW a)).length = q := by simp; omega
theorem wdW_len (ws : List (List Nat)) {q : Nat} (h : q ≤ ws.length) : ((ws.take q).map fun w => Value.string (wordB w)).length = q := by simp; omega
theorem lea_tail {c0 c5 c9 c11 c12 c13 c14 c15 c16 c17 c18 c19 c20 c21 c22 c23 c24 c25 c26 c27 c28 c29 c30 c31 c32 c33 c34 c35 c36 c37 c38 c39 c40 c41 c42 c43 c44 c45 c46 c47 c48 c49 c50 c51 c52 c53 c54 c55 c56 c57 c58 c59 c60 c61 c62 c63 c64 c65 c66 c67 c68 c69 c70 c71 c72 c73 c74 c75 c76 c77 c78 c79 c80 c81 c82 c83 c84 c85 c86 c87 c88 c89 c90 c91 c92 c93 c94 c95 c96 c97 c98 c99 c100 c101 c102 c103 c104 c105 c106 : Value} {ds : List Deferred} (a : Aut) (k n : Nat) (hok : Hid (okA a k n)) (hn : n ≤ 999) (cols : List (List Int)) (hci : Hid (ColsInv n cols)) (ws : List (List Nat)) (hm12 : ws.length ≤ 12) (sp : SpL) (hsh : Hid (SpShape sp cols.length))
  (F : List Nat → Nat → List Int) (hF : Hid (∀ w x, F w x = (splitL sp (seenL cols (rowW a (w ++ [x]))) (List.replicate sp.length 0)).2))
  (As Ae At : Option Addr) (cs ce ct : Nat) (U V : World) (gE g1 g2 g3 gc p pl g6 g8 : Nat) (A : Option Addr) (d : Nat) (Al : Option Addr) (cl : Nat)
  (hra : Hid (RdA U (.slice As n cs) (.slice Ae n ce) (.slice At k ct) a))
  (hbE : Hid (U.heap[gE]? = some (.cells #[.int .i64 (k : Nat), .slice As n cs, .slice Ae n ce, .slice At k ct] 77 (0, 0))))
  (hgc : Hid (U.cell? ⟨gc, 0, none⟩ = some (.slice A cols.length d))) (hrc : Hid (RdM U (.slice A cols.length d) cols)) (hsp : Hid (SpanR U p sp))
  (hpl : Hid (U.cell? ⟨pl, 0, none⟩ = some (.slice Al ws.length cl))) (hll : Hid (LeaL a n ws U Al))
  (h1 : Hid (U.heap[g1]? = some (.cells #[.int .i64 0, .slice none 0 0, .slice none 0 0, .slice none 0 0] 25 (0, 0)))) (h2 : Hid (U.heap[g2]? = some (.cells #[.slice none 0 0] 32 (0, 0)))) (h3 : Hid (U.heap[g3]? = some (.cells #[.bool false] 4 (0, 0))))
  (h12 : g2 ≠ g1) (h13 : g3 ≠ g1) (h23 : g3 ≠ g2)
  (hR0 : Hid (LeaR a F ws k U g6 g8 0 0 0 (.slice none 0 0) V)) (Q : Exit → Act → World → Prop)
  (hQ : Hid (∀ (tm : Array Value) (W : World) (vs ve vw : Value) (us : List Value), tm.getD 2 undef = .pointer (some ⟨g1, 0, none⟩) → tm.getD 3 undef = .pointer (some ⟨g2, 0, none⟩) → tm.getD 4 undef = .pointer (some ⟨g3, 0, none⟩) → LeaS U g6 g8 k vs ve vw us (stW ws.length) (ws.map (wtW a)) ((List.range k).map fun x => ws.map fun w => F w x) (ws.map fun w => .string (wordB w)) W →
   Q .ret ⟨tm, ds⟩ ((((((W.setCell ⟨g1, 0, none⟩ (.int .i64 (k : Nat))).setCell ⟨g1, 1, none⟩ vs).setCell ⟨g1, 2, none⟩ ve).setCell ⟨g1, 3, none⟩ (.slice (some ⟨g6, 0, none⟩) k k)).setCell ⟨g2, 0, none⟩ vw).setCell ⟨g3, 0, none⟩ (.bool true)))) :
  Code.wp Tryd.prog (leT 11) Q ⟨#[c0, .pointer (some ⟨gE, 0, none⟩), .pointer (some ⟨g1, 0, none⟩), .pointer (some ⟨g2, 0, none⟩), .pointer (some ⟨g3, 0, none⟩), c5, .func (.func 105) #[] #[.pointer (some ⟨gc, 0, none⟩)], .pointer (some ⟨p, 0, none⟩), .pointer (some ⟨pl, 0, none⟩), c9, .pointer (some ⟨g8, 0, none⟩), c11, c12, c13, c14, c15, c16, c17, c18, c19, c20, c21, c22, c23, c24, c25, c26, c27, c28, c29, c30, c31, c32, c33, c34, c35, c36, c37, c38, c39, c40, c41, c42, c43, c44, c45, c46, c47, c48, c49, c50, c51, c52, c53, c54, c55, c56, c57, c58, c59, c60, c61, c62, c63, c64, c65, c66, c67, c68, c69, c70, c71, c72, c73, c74, c75, c76, c77, c78, c79, c80, c81, c82, c83, c84, c85, c86, c87, c88, c89, c90, c91, c92, c93, c94, c95, c96, c97, c98, c99, c100, c101, c102, c103, c104, c105, c106], ds⟩ V := by
 conv => arg 2; whnf
 conv => arg 4; dsimp only
 obtain ⟨iS, hiS, jS0, jS1, jS2⟩ := info_parts infoS
 obtain ⟨iI, hiI, jI0, jI1, jI2⟩ := info_parts infoI
 obtain ⟨iR, hiR, jR0, jR1, jR2⟩ := info_parts infoR
 have hcl : cols.length ≤ 999 := Nat.le_trans hci.out.le hn
 have hkp := hok.out.pos
 have cE := Lib.hid (fun W (hW : Below U.heap.size U W) => cells4 ((hW.block gE (lt_of_block hbE.out)).trans hbE.out))
 have cP := Lib.hid (fun W (hW : Below U.heap.size U W) => (hW.cell (World.block_lt_of_cell? U _ hpl.out)).trans hpl.out)
 have cL := Lib.hid (fun q (hq : q < ws.length) => by
  obtain ⟨b, A, c, e, k0, k1, k2⟩ := hll.out.get q hq
  exact (⟨b, A, c, e, fun W (hW : Below U.heap.size U W) => ⟨(hW.cell (World.block_lt_of_cell? U _ k0)).trans k0, (hW.cell (World.block_lt_of_cell? U _ k1)).trans k1, k2.below hW (Nat.le_refl _)⟩⟩ : ∃ b A c, Al = some ⟨b, 0, none⟩ ∧ ∀ W, Below U.heap.size U W → W.cell? ⟨b, q * 2, none⟩ = some (.string (wordB (ws.getD q []))) ∧ W.cell? ⟨b, q * 2 + 1, none⟩ = some (.slice A n c) ∧ RdI W (.slice A n c) (rowW a (ws.getD q []))))
 have cD := Lib.hid (fun w vr W (hW : Below U.heap.size U W) (hr : RdI W vr (rowW a w)) => (dot_any (rowW a w) a.end_ vr (.slice Ae n ce) W hr (hra.out.end_.below hW (Nat.le_refl _)) (by rw [rowW_len hok.out, hok.out.end_.1]; exact Nat.le_refl _) (by rw [rowW_len hok.out]; omega) (rowW_bd hok.out w) hok.out.end_.2).mono (R' := fun e w' => e = .returned (.int .i64 (wtW a w)) ∧ Below W.heap.size W w') (fun e w' ⟨h1, h2⟩ => ⟨h1, h2 ▸ Below.refl _ _⟩))
 have cF := Lib.hid (fun w vr x W (hx : x < k) (hW : Below U.heap.size U W) (hr : RdI W vr (rowW a w)) => forth_k hok.out (by omega) w x hx (.slice As n cs) (.slice Ae n ce) (.slice At k ct) vr W (hra.out.below hW (Nat.le_refl _)) hr)
 have cS := Lib.hid (fun w vr W (hW : Below U.heap.size U W) (hr : RdI W vr (rowW a w)) => seen_any cols n (by omega) hci.out.rows (by omega) (rowW a w) (rowW_len hok.out w) (rowW_bd hok.out w) gc (.slice A cols.length d) vr W ((hW.cell (World.block_lt_of_cell? U _ hgc.out)).trans hgc.out) (hrc.out.below hW (Nat.le_refl _)) hr)
 have cT := Lib.hid (fun row vr W (hW : Below U.heap.size U W) (hr : RdI W vr row) (hl : row.length = cols.length) (hb : ∀ u ∈ row, 0 ≤ u ∧ u < 65521) => split_any sp cols.length hsh.out (by omega) p row vr W (hsp.out.below hW) hr hl hb)
 have cW := Lib.hid (fun W (hW : Below U.heap.size U W) => (⟨(hW.block g1 (lt_of_block h1.out)).trans h1.out, (hW.block g2 (lt_of_block h2.out)).trans h2.out, (hW.block g3 (lt_of_block h3.out)).trans h3.out⟩ : W.heap[g1]? = _ ∧ W.heap[g2]? = _ ∧ W.heap[g3]? = _))
 have hrl := Lib.hid (fun w => rowW_len hok.out w)
 have hse := Lib.hid (fun w => (⟨seenL_len cols (rowW a w), seenL_bd cols (rowW a w)⟩ : _ ∧ _))
 have hsl := Lib.hid (fun w => (splitL_lens sp (seenL cols (rowW a w)) (List.replicate sp.length 0)).2)
 clear hbE hpl hll hra hgc hrc hsp h1 h2 h3
 obtain ⟨hB0, vs0, ve0, us0, hS00⟩ : Below U.heap.size U V ∧ ∃ vs ve us, LeaS U g6 g8 k vs ve (.slice none 0 0) us _ _ _ _ V := ⟨(by obtain ⟨_, _, _, h⟩ := hR0.out; exact h.low), hR0.out⟩
 have p0 := cP.out V hB0
 clear hS00 vs0 ve0 us0
 obtain ⟨m, hm⟩ : ∃ m, ws.length = m := ⟨_, rfl⟩
 rw [hm] at p0 hm12
 have hm' := Lib.hid hm
 clear hm
 go_wp2
 go_loopw [11, 42] (fun v i wr => ∃ q : Nat, q ≤ m ∧ i = .int .i64 q ∧ Hid (LeaR a F ws k U g6 g8 q q 0 v wr)) (fun _ i _ => m - (intOf i).toNat)
 case atStart => exact ⟨0, Nat.zero_le _, rfl, hR0⟩
 case round =>
  obtain ⟨q, hq, rfl, hR⟩ := hrel
  by_cases hlt : q < m
  ·obtain ⟨vs, ve, us, hS⟩ := hR.out
   have hlow := hS.low
   have hq' : q < ws.length := by rw [hm'.out]; exact hlt
   obtain ⟨bA, Ar, cr, eA, cl1⟩ := cL.out q hq'
   subst eA
   obtain ⟨k0, k1, rr⟩ := cl1 wr hlow
   have hs1 := Lib.hid (map_take_snoc (wtW a) ws [] hq')
   have hs2 := Lib.hid (map_take_snoc (fun w => Value.string (wordB w)) ws [] hq')
   have hs3 := Lib.hid (fun y => @spW_set F ws k q y hq')
   generalize ws.getD q [] = xw at *
   obtain ⟨hX, hx0, hx1⟩ := box2n wr (.string (wordB xw)) (.slice Ar n cr) 107
   have hxh := heap_alloc_new wr (.cells #[.string (wordB xw), .slice Ar n cr] 107)
   have hS1 := Lib.hid (hS.kept hX)
   obtain ⟨B3, d3, e3⟩ := own_form hS.wds
   rw [wdW_len ws (Nat.le_of_lt hq')] at e3
   subst e3
   have hzU := hlow.size
   have hzX : wr.heap.size < (wr.alloc (.cells #[.string (wordB xw), .slice Ar n cr] 107)).heap.size := by simp
   have y1 : (q : Int) < (m : Int) := by omega
   have y0 : (0 : Int) ≤ (q : Int) := by omega
   replace hxh := Lib.hid hxh
   have hwl := wdW_len ws (Nat.le_of_lt hq')
   have hel := Lib.hid (enW_len a ws (Nat.le_of_lt hq'))
   have hw1 := Lib.hid (show wr.ownsRow U.heap.size 9 1 (.slice B3 q d3) q ((ws.take q).map fun w => .string (wordB w)) from by have := hS.wds; rwa [hwl] at this)
   replace hwl := Lib.hid hwl
   have cl1' := Lib.hid cl1
   have hX' := Lib.hid hX
   clear hS hR hX hlow cl1 rr
   go_upto_region 15 with fail
   generalize wr.alloc (.cells #[.string (wordB xw), .slice Ar n cr] 107) = X1 at *
   have hzU1 : U.heap.size ≤ X1.heap.size := by omega
   replace hw1 := Lib.hid (own_below hw1.out hX'.out)
   go_upto_region 16 with (at_builtin; (refine wpList_app1 rfl _ _ 32 rfl 9 iS _ 1 16 Tryd.underlying32 hiS jS0 jS1 jS2 rfl (by omega) (by omega) U.heap.size (.slice B3 q d3) q ((ws.take q).map fun w => .string (wordB w)) rfl (own_below hw1.out ((Below.refl X1.heap.size X1).alloc (Nat.le_refl _) _)) ⟨X1.heap.size, 0, none⟩ [.string (wordB xw)] rfl rfl (news_new X1 [.string (wordB xw)] _) (by simp [Value.oneCell']) (by omega) (by simp; omega) ?_); intro A5 e5 X2 hown2 hgrow2 hat2)
   obtain ⟨hS2, hk2⟩ := hS1.out.word ((Below.refl _ _).alloc (Nat.le_refl _) _) (x := .string (wordB xw)) (by rw [hwl.out]; exact hown2) hgrow2
   replace hs2 := hs2.out
   rw [hs2] at hS2
   replace hxh := Lib.hid (hk2 _ _ hxh.out)
   obtain ⟨B1, d1, e1⟩ := own_form hS2.own.start
   rw [stW_len] at e1
   subst e1
   obtain ⟨B2, d2, e2⟩ := own_form hS2.own.end_
   rw [hel.out] at e2
   subst e2
   have hz2 := hS2.low.size
   obtain ⟨b0, b1, b2, b3⟩ := cells4 hS2.box
   have ho2 := Lib.hid (show X2.ownsRow U.heap.size 3 1 (.slice B1 q d1) q (ints (stW q)) from by have := hS2.own.start; unfold OwnI at this; rwa [stW_len] at this)
   replace hS2 := Lib.hid hS2
   clear hS1 hown2 hgrow2 hat2 hk2 hw1 hx0 hx1 k0 k1 hs2
   go_upto_region 17 with (at_builtin; (refine wpList_app1 rfl _ _ 22 rfl 3 iI _ 1 8 Tryd.underlying22 hiI jI0 jI1 jI2 rfl (by omega) (by omega) U.heap.size (.slice B1 q d1) q (ints (stW q)) rfl (own_below ho2.out ((Below.refl X2.heap.size X2).alloc (Nat.le_refl _) _)) ⟨X2.heap.size, 0, none⟩ [.int .i64 0] rfl rfl (news_new X2 [.int .i64 0] _) (by simp [Value.oneCell']) (by omega) (by simp; omega) ?_); intro A6 e6 X3 hown3 hgrow3 hat3; obtain ⟨hbx3, hS3, hk3⟩ := hS2.out.start1 ((Below.refl _ _).alloc (Nat.le_refl _) _) (own_snoc1 (stW_len q) hown3) hgrow3 hat3; obtain ⟨b0, b1, b2, b3⟩ := cells4 hbx3; have f1 := froz hbx3 1; replace hS3 := Lib.hid hS3; replace hk3 := Lib.hid hk3; clear hown3 hgrow3 hat3 hbx3)
   replace hxh := Lib.hid (hk3.out _ _ hxh.out)
   generalize X3.setCell ⟨g8, 1, none⟩ (.slice A6 (q + 1) e6) = X4 at *
   clear hk3 hS2 ho2 b0 b1 b2 b3 f1
   obtain ⟨b0, b1, b2, b3⟩ := cells4 hS3.out.box
   obtain ⟨gS, cS1, eS, -, -⟩ := World.ownsRow.form hS3.out.own.start (by simp)
   simp only [Value.slice.injEq] at eS
   obtain ⟨rfl, -, rfl⟩ := eS
   obtain ⟨nS1, nS2⟩ := hS3.out.own.start.num (k := 0) (by simp)
   obtain ⟨hS4, hk4⟩ := hS3.out.start2 0 1
   rw [stW_succ] at hS4
   replace hxh := Lib.hid (hk4 _ _ hxh.out)
   replace hS4 := Lib.hid hS4
   clear hk4 hS3
   go_upto_region 18 with fail
   generalize X4.setCell ⟨gS, 0, none⟩ (.int .i64 1) = X5 at *
   clear b0 b1 b2 b3 nS1 nS2
   have hz5 := hS4.out.low.size
   have tT : Hid (∀ W, W.heap[g8]? = some (.cells #[.int .i64 (k : Nat), .slice (some ⟨gS, 0, none⟩) (q + 1) e6, .slice B2 q d2, .slice (some ⟨g6, 0, none⟩) k k] 25 (0, 0)) → Below U.heap.size U W →
    (W.heap[g8]? = some (.cells #[.int .i64 (k : Nat), .slice (some ⟨gS, 0, none⟩) (q + 1) e6, .slice B2 q d2, .slice (some ⟨g6, 0, none⟩) k k] 25 (0, 0)) ∧ W.cell? ⟨pl, 0, none⟩ = some (.slice (some ⟨bA, 0, none⟩) m cl) ∧ W.cell? ⟨bA, q * 2 + 1, none⟩ = some (.slice Ar n cr) ∧ W.cell? ⟨gE, 2, none⟩ = some (.slice Ae n ce))) := Lib.hid (fun W h1 h2 => ⟨h1, by have := cP.out W h2; rwa [hm'.out] at this, (cl1'.out W h2).2.1, (cE.out W h2).2.2.1⟩)
   have ho5 := Lib.hid (show X5.ownsRow U.heap.size 3 1 (.slice B2 q d2) q (ints ((ws.take q).map (wtW a))) from by have := hS4.out.own.end_; unfold OwnI at this; rwa [hel.out] at this)
   refine Code.wp_mono (Q := Exit.then _ (fun _ _ _ => False)) (no_exit _ _) ?_
   refine D_begin (fun _ => True) (fun W => W.heap[g8]? = some (.cells #[.int .i64 (k : Nat), .slice (some ⟨gS, 0, none⟩) (q + 1) e6, .slice B2 q d2, .slice (some ⟨g6, 0, none⟩) k k] 25 (0, 0)) ∧ W.cell? ⟨pl, 0, none⟩ = some (.slice (some ⟨bA, 0, none⟩) m cl) ∧ W.cell? ⟨bA, q * 2 + 1, none⟩ = some (.slice Ar n cr) ∧ W.cell? ⟨gE, 2, none⟩ = some (.slice Ae n ce)) 14 (by kernel_rfl) ?_
   change wpAnyD _ _ _ _ _ _ _ _ _ _ X5.drew
   simp only [List.size_toArray, List.length_cons, List.length_nil, Nat.reduceAdd, Array.replicate_succ, Array.replicate_zero, List.push_toArray, List.append_toArray, List.nil_append, List.cons_append]
   have hD7 : Below X5.heap.size X5 X5.drew := (Below.refl _ _).drew
   replace hS4 := Lib.hid (hS4.out.kept hD7)
   replace ho5 := Lib.hid (own_below ho5.out hD7)
   replace hxh := Lib.hid (heap_keep hxh.out hD7)
   have z_D7 := hD7.size; clear hD7
   generalize X5.drew = D7 at *
   refine Dt 0 rfl ?_ trivial (fun _ => (by first | exact hT8.out | exact tT.out _ hS4.out.box hS4.out.low)) ?_ ?_
   rotate_left; · intro w1 hw1; go_simp; try with_reducible rfl
   try simp only [Act.put, s_1, s_2, s_3, s_4, s_5, s_6]
   refine D_load (i := 2) (v := ?_) rfl (by kernel_rfl) (by kernel_rfl) (by kernel_rfl) (by kernel_rfl) (by kernel_rfl) rfl (fun _ _ _ h => h) (Or.inl ⟨by rfl, ?_⟩) trivial (by first | exact hT8.out | exact tT.out _ hS4.out.box hS4.out.low) ?_
   rotate_left; · intro w1 hw1; obtain ⟨t1, t2, t3, t4⟩ := hw1.2; obtain ⟨b0, b1, b2, b3⟩ := cells4 t1; go_simp; try with_reducible rfl
   try simp only [Act.put, s_1, s_2, s_3, s_4, s_5, s_6]
   refine Dt 3 rfl ?_ trivial (fun _ => (by first | exact hT8.out | exact tT.out _ hS4.out.box hS4.out.low)) ?_ ?_
   rotate_left; · intro w1 hw1; go_simp; try with_reducible rfl
   try simp only [Act.put, s_1, s_2, s_3, s_4, s_5, s_6]
   refine Dt 7 rfl ?_ trivial (fun _ => (by first | exact hT8.out | exact tT.out _ hS4.out.box hS4.out.low)) ?_ ?_
   rotate_left; · intro w1 hw1; go_simp; try with_reducible rfl
   try simp only [Act.put, s_1, s_2, s_3, s_4, s_5, s_6]
   refine D_load (i := 1) (v := ?_) rfl (by kernel_rfl) (by kernel_rfl) (by kernel_rfl) (by kernel_rfl) (by kernel_rfl) rfl (fun _ _ _ h => h) (Or.inl ⟨by rfl, ?_⟩) trivial (by first | exact hT8.out | exact tT.out _ hS4.out.box hS4.out.low) ?_
   rotate_left; · intro w1 hw1; obtain ⟨t1, t2, t3, t4⟩ := hw1.2; obtain ⟨b0, b1, b2, b3⟩ := cells4 t1; go_simp; try with_reducible rfl
   try simp only [Act.put, s_1, s_2, s_3, s_4, s_5, s_6]
   refine Dt 4 rfl ?_ trivial (fun _ => (by first | exact hT8.out | exact tT.out _ hS4.out.box hS4.out.low)) ?_ ?_
   rotate_left; · intro w1 hw1; go_simp; try with_reducible rfl
   try simp only [Act.put, s_1, s_2, s_3, s_4, s_5, s_6]
   refine Dt 8 rfl ?_ trivial (fun _ => (by first | exact hT8.out | exact tT.out _ hS4.out.box hS4.out.low)) ?_ ?_
   rotate_left; · intro w1 hw1; go_simp; try with_reducible rfl
   try simp only [Act.put, s_1, s_2, s_3, s_4, s_5, s_6]
   refine Dt 5 rfl ?_ trivial (fun _ => (by first | exact hT8.out | exact tT.out _ hS4.out.box hS4.out.low)) ?_ ?_
   rotate_left; · intro w1 hw1; go_simp; try with_reducible rfl
   try simp only [Act.put, s_1, s_2, s_3, s_4, s_5, s_6]
   refine D_load (i := 9) (v := ?_) rfl (by kernel_rfl) (by kernel_rfl) (by kernel_rfl) (by kernel_rfl) (by kernel_rfl) rfl (fun _ _ _ h => h) (Or.inl ⟨by rfl, ?_⟩) trivial (by first | exact hT8.out | exact tT.out _ hS4.out.box hS4.out.low) ?_
   rotate_left; · intro w1 hw1; obtain ⟨t1, t2, t3, t4⟩ := hw1.2; obtain ⟨b0, b1, b2, b3⟩ := cells4 t1; go_simp; try with_reducible rfl
   try simp only [Act.put, s_1, s_2, s_3, s_4, s_5, s_6]
   refine D_load (i := 6) (v := ?_) rfl (by kernel_rfl) (by kernel_rfl) (by kernel_rfl) (by kernel_rfl) (by kernel_rfl) rfl (fun _ _ _ h => h) (Or.inl ⟨by rfl, ?_⟩) trivial (by first | exact hT8.out | exact tT.out _ hS4.out.box hS4.out.low) ?_
   rotate_left; · intro w1 hw1; obtain ⟨t1, t2, t3, t4⟩ := hw1.2; obtain ⟨b0, b1, b2, b3⟩ := cells4 t1; go_simp; try with_reducible rfl
   try simp only [Act.put, s_1, s_2, s_3, s_4, s_5, s_6]
   refine D_one (i := 10) (by kernel_rfl) rfl ?_
   intro K hK
   rw [if_pos (by rfl)]
   go_wp2_with fail
   refine (cD.out xw _ D7 hS4.out.low (cl1'.out _ hS4.out.low).2.2).mono ?_; rintro e D7_1 ⟨rfl, hE1⟩
   replace hS4 := Lib.hid (hS4.out.kept hE1)
   replace ho5 := Lib.hid (own_below ho5.out hE1)
   replace hxh := Lib.hid (heap_keep hxh.out hE1)
   have z_1 := hE1.size; clear hE1
   refine hK _ _ trivial (fun _ _ => (by first | exact hT8.out | exact tT.out _ hS4.out.box hS4.out.low)) ?_
   clear hK K
   try simp only [Act.put, s_1, s_2, s_3, s_4, s_5, s_6]
   refine D_one (i := 11) (by kernel_rfl) rfl ?_
   intro K hK
   rw [if_pos (by rfl)]
   go_simp
   have hE2 : Below D7_1.heap.size D7_1 (D7_1.alloc (.cells #[.int .i64 (wtW a xw)] 3)) := (Below.refl _ _).alloc (Nat.le_refl _) _
   replace hS4 := Lib.hid (hS4.out.kept hE2)
   replace ho5 := Lib.hid (own_below ho5.out hE2)
   replace hxh := Lib.hid (heap_keep hxh.out hE2)
   have n11 : Hid (∀ j u, [.int .i64 (wtW a xw)][j]? = some u → (D7_1.alloc (.cells #[.int .i64 (wtW a xw)] 3)).cell? ((⟨D7_1.heap.size, 0, none⟩ : Addr).add j) = some u) := Lib.hid (news_new _ _ _)
   have z_2 : D7_1.heap.size < (D7_1.alloc (.cells #[.int .i64 (wtW a xw)] 3)).heap.size := by simp
   clear hE2
   refine hK _ _ trivial (fun _ _ => (by first | exact hT8.out | exact tT.out _ hS4.out.box hS4.out.low)) ?_
   clear hK K
   try simp only [Act.put, s_1, s_2, s_3, s_4, s_5, s_6]
   generalize (D7_1.alloc (.cells #[.int .i64 (wtW a xw)] 3)) = D7_2 at *
   refine D_one (i := 12) (by kernel_rfl) rfl ?_
   intro K hK
   refine step_app1 (by rfl) _ _ 22 (by rfl) 3 iI _ 1 8 Tryd.underlying22 hiI jI0 jI1 jI2 (by rfl) (by omega) (by omega) U.heap.size (.slice B2 q d2) q (ints ((ws.take q).map (wtW a))) (by rfl) ho5.out ⟨_, 0, none⟩ [.int .i64 (wtW a xw)] (by rfl) rfl n11.out (by simp [Value.oneCell']) (by omega) hS4.out.low.size ?_
   intro A7 e7 X8 hown8 hgrow8 hat8
   obtain ⟨hbx8, hS9, hk9⟩ := hS4.out.end1 (Below.refl _ _) (own_snoc1 hel.out hown8) hgrow8 hat8
   have hT8 := Lib.hid (tT.out _ hbx8 (hS4.out.low.grown hgrow8 hS4.out.low.size (fun q hq => (ho5.out.lt q hq).1)))
   obtain ⟨b0, b1, b2, b3⟩ := cells4 hbx8
   have f2 := froz hbx8 2
   replace hs1 := hs1.out
   rw [hs1] at hS9
   replace hS9 := Lib.hid hS9
   replace hxh := Lib.hid (hk9 _ _ hxh.out)
   clear hown8 hgrow8 hat8 hk9 hbx8 n11 hs1
   refine hK _ _ trivial (fun _ _ => (by first | exact hT8.out | exact tT.out _ hS4.out.box hS4.out.low)) ?_
   clear hK K
   try simp only [Act.put, s_1, s_2, s_3, s_4, s_5, s_6]
   refine Dt 13 rfl ?_ trivial (fun _ => (by first | exact hT8.out | exact tT.out _ hS4.out.box hS4.out.low)) ?_ ?_
   rotate_left; · intro w1 hw1; go_simp; try with_reducible rfl
   try simp only [Act.put, s_1, s_2, s_3, s_4, s_5, s_6]
   refine D_one (i := 14) (by kernel_rfl) rfl ?_
   intro K hK
   rw [if_pos (by rfl)]
   go_simp
   refine hK _ _ trivial (fun h _ => absurd rfl h) ?_
   clear hK K
   try simp only [Act.put, s_1, s_2, s_3, s_4, s_5, s_6]
   refine D_done (by kernel_rfl) ?_ _
   rename (∀ (a : Act) (w : World), Code.wp _ _ _ a w → _) => hK2
   refine hK2 _ _ ?_
   clear hK2
   generalize X8.setCell ⟨g8, 2, none⟩ (.slice A7 (q + 1) e7) = X9 at *
   have hzX9 := hS9.out.low.size
   have hR9 := Lib.hid (show LeaR a F ws k U g6 g8 q (q + 1) 0 (.slice A5 (q + 1) e5) X9 from ⟨_, _, _, hS9.out⟩)
   have hbw : wr.heap.size < X9.heap.size := lt_of_block hxh.out
   obtain ⟨b0, b1, b2, b3⟩ := cE.out _ hS9.out.low
   clear hS9 hS4 ho5 tT hT8 f2
   go_wp2
   go_loopw [77] (fun i w2 => ∃ y : Nat, y ≤ k ∧ i = .int .i64 y ∧ Hid (LeaR a F ws k U g6 g8 q (q + 1) y (.slice A5 (q + 1) e5) w2) ∧ Hid (w2.heap[wr.heap.size]? = some (.cells #[.string (wordB xw), .slice Ar n cr] 107 (0, 0)))) (fun i _ => k - (intOf i).toNat)
   case atStart => exact ⟨0, Nat.zero_le _, rfl, hR9, hxh⟩
   case round =>
    obtain ⟨y, hy, rfl, hR, hxh⟩ := hrel
    rename World => w2
    obtain ⟨vs3, ve3, us3, hS⟩ := hR.out
    have hlow := hS.low
    by_cases hyk : y < k
    ·obtain ⟨b0, b1, b2, b3⟩ := cE.out _ hlow
     obtain ⟨x0, x1⟩ := cell_two hxh.out
     have y1 : (y : Int) < (k : Int) := by omega
     have y0 : (0 : Int) ≤ (y : Int) := by omega
     replace hS := Lib.hid hS
     clear hR
     go_wp2_with fail
     refine (cF.out xw _ y w2 hyk hlow (cl1'.out _ hlow).2.2).mono ?_; rintro e Y1 ⟨⟨v1, rfl, o1⟩, hb1⟩
     have hlow1 := Below.then_ hlow hb1
     have r1 := o1.rd (by rw [hrl.out]; omega)
     obtain ⟨A9, c9', rfl⟩ := own_form o1
     replace hS := Lib.hid (hS.out.kept hb1)
     replace hxh := Lib.hid (heap_keep hxh.out hb1)
     clear o1
     go_wp2_with fail
     refine (cS.out (xw ++ [y]) _ Y1 hlow1 r1).mono ?_; rintro e Y2 ⟨⟨v2, rfl, o2⟩, hb2⟩
     have hlow2 := Below.then_ hlow1 hb2
     obtain ⟨sl1, sl2⟩ := hse.out (xw ++ [y])
     have r2 := o2.rd (by rw [sl1]; omega)
     obtain ⟨A10, c10', e10⟩ := own_form o2
     rw [sl1] at e10
     subst e10
     replace hS := Lib.hid (hS.out.kept hb2)
     replace hxh := Lib.hid (heap_keep hxh.out hb2)
     obtain ⟨b0, b1, b2, b3⟩ := cE.out _ hlow2
     clear o2 r1
     go_wp2_with fail
     refine (cT.out (seenL cols (rowW a (xw ++ [y]))) _ Y2 hlow2 r2 sl1 sl2).mono ?_; rintro e Y3 ⟨⟨v3, v4, rfl, o3, o4⟩, hb3⟩
     have hlow3 := Below.then_ hlow2 hb3
     have hFy := hF.out xw y
     rw [← hFy] at o4
     replace hFy := Lib.hid hFy
     obtain ⟨u, xs, hcu, hou, hcont⟩ := hS.out.row1 (spW_get hyk)
     have hml : ((ws.take q).map fun w => F w y).length = q := by simp; omega
     rw [hml] at hou
     obtain ⟨Au, cu, rfl⟩ := own_form hou
     have hY := Lib.hid hb3
     obtain ⟨A4, c4', rfl⟩ := own_form o4
     obtain ⟨A3', c3', rfl⟩ := own_form o3
     have hx2 := Lib.hid hxh.out
     have hzY2 := hlow2.size
     replace o4 := Lib.hid o4
     have hS2 := hS
     replace hou := Lib.hid (own_below hou hb3)
     replace hcont := Lib.hid hcont
     replace hml := Lib.hid hml
     have tT : Hid (∀ W, Below Y2.heap.size Y2 W → (W.cell? ⟨g8, 3, none⟩ = some (.slice (some ⟨g6, 0, none⟩) k k) ∧ W.cell? ⟨g6, y, none⟩ = some (.slice Au q cu))) := Lib.hid (fun W hW => ⟨(cells4 (heap_keep hS2.out.box hW)).2.2.2, (hW.cell (World.block_lt_of_cell? _ _ hcu)).trans hcu⟩)
     clear r2 sl1 sl2 o3 hb3 hb1 hb2 b0 b1 b2 b3 x0 x1 hS hcu hlow hlow1
     go_upto_region 23 with fail
     refine Code.wp_mono (Q := Exit.inBlock 5 (Exit.then _ (fun _ _ _ => False))) (no_exit_in 5 _ _) ?_
     refine D_begin (fun _ => True) (fun W => W.cell? ⟨g8, 3, none⟩ = some (.slice (some ⟨g6, 0, none⟩) k k) ∧ W.cell? ⟨g6, y, none⟩ = some (.slice Au q cu)) 12 (by kernel_rfl) ?_
     change wpAnyD _ _ _ _ _ _ _ _ _ _ Y3.drew
     simp only [List.size_toArray, List.length_cons, List.length_nil, Nat.reduceAdd, Array.replicate_succ, Array.replicate_zero, List.push_toArray, List.append_toArray, List.nil_append, List.cons_append]
     have hD6 : Below Y3.heap.size Y3 Y3.drew := (Below.refl _ _).drew
     replace hY := Lib.hid (Below.then_ hY.out hD6)
     replace o4 := Lib.hid (own_below o4.out hD6)
     replace hou := Lib.hid (own_below hou.out hD6)
     have z_D6 := hD6.size; clear hD6
     generalize Y3.drew = D6 at *
     refine Dt 0 rfl ?_ trivial (fun _ => (by first | exact hT8.out | exact tT.out _ hY.out)) ?_ ?_
     rotate_left; · intro w1 hw1; go_simp; try with_reducible rfl
     try simp only [Act.put, s_1, s_2, s_3, s_4, s_5, s_6]
     refine Dt 2 rfl ?_ trivial (fun _ => (by first | exact hT8.out | exact tT.out _ hY.out)) ?_ ?_
     rotate_left; · intro w1 hw1; go_simp; try with_reducible rfl
     try simp only [Act.put, s_1, s_2, s_3, s_4, s_5, s_6]
     refine Dt 3 rfl ?_ trivial (fun _ => (by first | exact hT8.out | exact tT.out _ hY.out)) ?_ ?_
     rotate_left; · intro w1 hw1; go_simp; try with_reducible rfl
     try simp only [Act.put, s_1, s_2, s_3, s_4, s_5, s_6]
     refine Dt 5 rfl ?_ trivial (fun _ => (by first | exact hT8.out | exact tT.out _ hY.out)) ?_ ?_
     rotate_left; · intro w1 hw1; go_simp; try with_reducible rfl
     try simp only [Act.put, s_1, s_2, s_3, s_4, s_5, s_6]
     refine Dt 8 rfl ?_ trivial (fun _ => (by first | exact hT8.out | exact tT.out _ hY.out)) ?_ ?_
     rotate_left; · intro w1 hw1; go_simp; try with_reducible rfl
     try simp only [Act.put, s_1, s_2, s_3, s_4, s_5, s_6]
     refine D_load (i := 1) (v := ?_) rfl (by kernel_rfl) (by kernel_rfl) (by kernel_rfl) (by kernel_rfl) (by kernel_rfl) rfl (fun _ _ _ h => h) (Or.inl ⟨by rfl, ?_⟩) trivial (by first | exact hT8.out | exact tT.out _ hY.out) ?_
     rotate_left; · intro w1 hw1; obtain ⟨t1, t2⟩ := hw1.2; go_simp; try with_reducible rfl
     try simp only [Act.put, s_1, s_2, s_3, s_4, s_5, s_6]
     refine D_load (i := 4) (v := ?_) rfl (by kernel_rfl) (by kernel_rfl) (by kernel_rfl) (by kernel_rfl) (by kernel_rfl) rfl (fun _ _ _ h => h) (Or.inl ⟨by rfl, ?_⟩) trivial (by first | exact hT8.out | exact tT.out _ hY.out) ?_
     rotate_left; · intro w1 hw1; obtain ⟨t1, t2⟩ := hw1.2; go_simp; try with_reducible rfl
     try simp only [Act.put, s_1, s_2, s_3, s_4, s_5, s_6]
     refine Dt 6 rfl ?_ trivial (fun _ => (by first | exact hT8.out | exact tT.out _ hY.out)) ?_ ?_
     rotate_left; · intro w1 hw1; go_simp; try with_reducible rfl
     try simp only [Act.put, s_1, s_2, s_3, s_4, s_5, s_6]
     refine D_load (i := 7) (v := ?_) rfl (by kernel_rfl) (by kernel_rfl) (by kernel_rfl) (by kernel_rfl) (by kernel_rfl) rfl (fun _ _ _ h => h) (Or.inl ⟨by rfl, ?_⟩) trivial (by first | exact hT8.out | exact tT.out _ hY.out) ?_
     rotate_left; · intro w1 hw1; obtain ⟨t1, t2⟩ := hw1.2; go_simp; try with_reducible rfl
     try simp only [Act.put, s_1, s_2, s_3, s_4, s_5, s_6]
     refine D_one (i := 9) (by kernel_rfl) rfl ?_
     intro K hK
     rw [if_pos (by rfl)]
     go_simp
     have hE1 : Below D6.heap.size D6 (D6.alloc (.cells #[.slice A4 (F xw y).length c4'] 22)) := (Below.refl _ _).alloc (Nat.le_refl _) _
     replace hY := Lib.hid (Below.then_ hY.out hE1)
     replace o4 := Lib.hid (own_below o4.out hE1)
     replace hou := Lib.hid (own_below hou.out hE1)
     have n11 : Hid (∀ j u, [.slice A4 (F xw y).length c4'][j]? = some u → (D6.alloc (.cells #[.slice A4 (F xw y).length c4'] 22)).cell? ((⟨D6.heap.size, 0, none⟩ : Addr).add j) = some u) := Lib.hid (news_new _ _ _)
     have z_1 : D6.heap.size < (D6.alloc (.cells #[.slice A4 (F xw y).length c4'] 22)).heap.size := by simp
     clear hE1
     refine hK _ _ trivial (fun _ _ => (by first | exact hT8.out | exact tT.out _ hY.out)) ?_
     clear hK K
     try simp only [Act.put, s_1, s_2, s_3, s_4, s_5, s_6]
     generalize (D6.alloc (.cells #[.slice A4 (F xw y).length c4'] 22)) = D6_1 at *
     refine D_one (i := 10) (by kernel_rfl) rfl ?_
     intro K hK
     refine step_app1 (by rfl) _ _ 59 (by rfl) 22 iR _ 1 24 Tryd.underlying59 hiR jR0 jR1 jR2 (by rfl) (by omega) (by omega) U.heap.size (.slice Au q cu) q xs (by rfl) hou.out ⟨_, 0, none⟩ [.slice A4 (F xw y).length c4'] (by rfl) rfl n11.out (by simp [Value.oneCell']) (by omega) (Nat.le_trans hzY2 hY.out.size) ?_
     intro A7 e7 X8 hown8 hgrow8 hat8
     obtain ⟨hbx8, hcu8, hfu8, hS9, hk9⟩ := hcont.out _ X8 _ _ _ hY.out o4.out (by rw [hml.out]; exact hown8) hgrow8 hat8
     have hT8 := Lib.hid (show _ ∧ _ from ⟨(cells4 hbx8).2.2.2, hcu8⟩)
     rw [hs3.out y] at hS9
     replace hS9 := Lib.hid hS9
     replace hxh := Lib.hid (hk9 _ _ hx2.out)
     clear hown8 hgrow8 hat8 hk9 hbx8 n11
     refine hK _ _ trivial (fun _ _ => (by first | exact hT8.out | exact tT.out _ hY.out)) ?_
     clear hK K
     try simp only [Act.put, s_1, s_2, s_3, s_4, s_5, s_6]
     refine Dt 11 rfl ?_ trivial (fun _ => (by first | exact hT8.out | exact tT.out _ hY.out)) ?_ ?_
     rotate_left; · intro w1 hw1; go_simp; try with_reducible rfl
     try simp only [Act.put, s_1, s_2, s_3, s_4, s_5, s_6]
     refine D_one (i := 12) (by kernel_rfl) rfl ?_
     intro K hK
     rw [if_pos (by rfl)]
     go_simp
     refine hK _ _ trivial (fun h _ => absurd rfl h) ?_
     clear hK K
     try simp only [Act.put, s_1, s_2, s_3, s_4, s_5, s_6]
     refine D_done (by kernel_rfl) ?_ _
     rename (∀ (a : Act) (w : World), Code.wp _ _ _ a w → _) => hK2
     refine hK2 _ _ ?_
     clear hK2
     generalize X8.setCell ⟨g6, y, none⟩ (.slice A7 (q + 1) e7) = X9 at *
     go_wp2
     go_roundw
     case rel => exact ⟨y + 1, by omega, by go_num, Lib.hid ⟨_, _, _, hS9.out⟩, hxh⟩
     case measure => simp [intOf]; omega
    ·obtain rfl : y = k := by omega
     rw [spW_end] at hS
     have hfin := Lib.hid (show LeaR a F ws y U g6 g8 (q + 1) (q + 1) 0 (.slice A5 (q + 1) e5) w2 from ⟨_, _, _, hS⟩)
     clear hS hR
     go_wp2
     go_roundw
     case rel => exact ⟨q + 1, by omega, by go_num, hfin⟩
     case measure => simp [intOf]; omega
  ·obtain rfl : q = m := by omega
   have hqq := hm'.out
   subst hqq
   obtain ⟨vs, ve, us, hS⟩ := hR.out
   obtain ⟨r1, r2, r3⟩ := cW.out wr hS.low
   obtain ⟨x0, x1, x2, x3⟩ := cells4 hS.box
   obtain ⟨y0, y1, y2, y3⟩ := cells4 r1
   have y4 := cell_1 r2
   have y5 := cell_1 r3
   have z0 := froz r1 0
   have z1 := froz r1 1
   have z2 := froz r1 2
   have z3 := froz r1 3
   have z4 := froz r2 0
   have z5 := froz r3 0
   obtain ⟨B1, d1, e1⟩ := own_form hS.own.start
   obtain ⟨B2, d2, e2⟩ := own_form hS.own.end_
   obtain ⟨B3, d3, e3⟩ := own_form hS.wds
   rw [stW_len] at e1
   rw [enW_len a ws (Nat.le_refl _)] at e2
   rw [wdW_len ws (Nat.le_refl _)] at e3
   subst e1 e2 e3
   rw [spW_all, List.take_of_length_le (Nat.le_refl _)] at hS
   have hfin := Lib.hid hS
   clear hS hR r1 r2 r3
   go_wp2
   exact hQ.out _ _ _ _ _ us rfl rfl rfl hfin.out
end Go.Proofs.YtlpldfocljnpnaaDoor
namespace Go.Proofs.YtlpldfocljnpnaaDoor
open Go.RowKit Go.Shelf
attribute [local go_sem] Oper.semAt_some
theorem columns_k {a : Aut} {k n : Nat} (ok : okA a k n) (hn : n ≤ 999) {cols : List (List Int)} (hcols : ColsOf a cols) (s e t : Value) (w : World) (ra : RdA w s e t a) :
  Calls Tryd.prog 104 #[.agg #[.int .i64 (k : Nat), s, e, t]] w fun r w' => (∃ v, r = .returned v ∧ RdM w' v cols) ∧ Below w.heap.size w w' := by
 have h := columns_any ok hn hcols s e t w ra
 rwa [ok.letters] at h
theorem load_strs {w : World} {g : Nat} {v : Value} (hc : w.cell? ⟨g, 0, none⟩ = some v) : (loadVar 32 ⟨g, 0, none⟩).run Tryd.prog w = .ok v w := by
 have hu : Tryd.prog.underlying 32 = some (.slice 9) := by kernel_rfl
 simp [loadVar, underlying, hu, go_sem, hc]
theorem load_bool {w : World} {g : Nat} {v : Value} (hc : w.cell? ⟨g, 0, none⟩ = some v) : (loadVar 4 ⟨g, 0, none⟩).run Tryd.prog w = .ok v w := by
 have hu : Tryd.prog.underlying 4 = some .bool := by kernel_rfl
 simp [loadVar, underlying, hu, go_sem, hc]
theorem res_lea {fn : Func} {p q u : Tmp} (h : fn.results = #[.cell p 25, .cell q 32, .cell u 4]) (tmps : Array Value) (w : World) (gp gq gu : Nat) (x0 x1 x2 x3 v2 v3 : Value) (hp : tmps.getD p undef = .pointer (some ⟨gp, 0, none⟩)) (hq : tmps.getD q undef = .pointer (some ⟨gq, 0, none⟩)) (hu : tmps.getD u undef = .pointer (some ⟨gu, 0, none⟩))
  (hgp : w.heap[gp]? = some (.cells #[x0, x1, x2, x3] 25 (0, 0))) (hq2 : w.cell? ⟨gq, 0, none⟩ = some v2) (hu2 : w.cell? ⟨gu, 0, none⟩ = some v3) : (results fn tmps).run Tryd.prog w = .ok (.tuple #[.agg #[x0, x1, x2, x3], v2, v3]) w := by
 have hp' : tmps[p]?.getD undef = .pointer (some ⟨gp, 0, none⟩) := by simpa using hp
 have hq' : tmps[q]?.getD undef = .pointer (some ⟨gq, 0, none⟩) := by simpa using hq
 have hu' : tmps[u]?.getD undef = .pointer (some ⟨gu, 0, none⟩) := by simpa using hu
 have hl := run_loadVar_row (P := Tryd.prog) w gp 25 25 #[x0, x1, x2, x3] (0, 0) _ hgp Tryd.underlying25 rfl (by kernel_rfl)
 simp [results, h, hp', hq', hu', asAddr, hl, load_strs hq2, load_bool hu2]
theorem stop_cells {Z : World} {h : Nat} (r1 : Z.heap[h + 1]? = some (.cells #[.int .i64 0, .slice none 0 0, .slice none 0 0, .slice none 0 0] 25 (0, 0))) (r2 : Z.heap[h + 2]? = some (.cells #[.slice none 0 0] 32 (0, 0))) (r3 : Z.heap[h + 3]? = some (.cells #[.bool false] 4 (0, 0))) :
  ∃ E, ((((((Z.setCell ⟨h + 1, 0, none⟩ (.int .i64 0)).setCell ⟨h + 1, 1, none⟩ (.slice none 0 0)).setCell ⟨h + 1, 2, none⟩ (.slice none 0 0)).setCell ⟨h + 1, 3, none⟩ (.slice none 0 0)).setCell ⟨h + 1 + 1, 0, none⟩ (.slice none 0 0)).setCell ⟨h + 1 + 1 + 1, 0, none⟩ (.bool false)) = E ∧
   E.heap[h + 1]? = some (.cells #[.int .i64 0, .slice none 0 0, .slice none 0 0, .slice none 0 0] 25 (0, 0)) ∧ E.heap[h + 2]? = some (.cells #[.slice none 0 0] 32 (0, 0)) ∧ E.heap[h + 3]? = some (.cells #[.bool false] 4 (0, 0)) ∧ Frame (fun q => h + 1 ≤ q ∧ q ≤ h + 3) Z E := by
 have e0 := heap_set1 (.int .i64 0) (k := 0) r1
 have e1 := heap_set1 (.slice none 0 0) (k := 1) e0
 have e2 := heap_set1 (.slice none 0 0) (k := 2) e1
 have e3 := heap_set1 (.slice none 0 0) (k := 3) e2
 have hF : ∀ (W : World) (g o : Nat) (v : Value), h + 1 ≤ g → g ≤ h + 3 → Frame (fun q => h + 1 ≤ q ∧ q ≤ h + 3) W (W.setCell ⟨g, o, none⟩ v) := fun W g o v h1 h2 => Frame.setCell W g o v ⟨h1, h2⟩
 refine ⟨_, rfl, ?_, ?_, ?_, ?_⟩
 ·refine (Below.heap_setCell _ _ _ _ (show h + 1 ≠ h + 1 + 1 + 1 by omega)).trans ((Below.heap_setCell _ _ _ _ (show h + 1 ≠ h + 1 + 1 by omega)).trans ?_)
  exact e3
 ·refine (Below.heap_setCell _ _ _ _ (show h + 2 ≠ h + 1 + 1 + 1 by omega)).trans ?_
  refine heap_set1 (.slice none 0 0) (k := 0) (cs := #[.slice none 0 0]) ?_
  refine (Below.heap_setCell _ _ _ _ (show h + 2 ≠ h + 1 by omega)).trans ((Below.heap_setCell _ _ _ _ (show h + 2 ≠ h + 1 by omega)).trans ((Below.heap_setCell _ _ _ _ (show h + 2 ≠ h + 1 by omega)).trans ((Below.heap_setCell _ _ _ _ (show h + 2 ≠ h + 1 by omega)).trans r2)))
 ·refine heap_set1 (.bool false) (k := 0) (cs := #[.bool false]) ?_
  refine (Below.heap_setCell _ _ _ _ (show h + 3 ≠ h + 1 + 1 by omega)).trans ?_
  refine (Below.heap_setCell _ _ _ _ (show h + 3 ≠ h + 1 by omega)).trans ((Below.heap_setCell _ _ _ _ (show h + 3 ≠ h + 1 by omega)).trans ((Below.heap_setCell _ _ _ _ (show h + 3 ≠ h + 1 by omega)).trans ((Below.heap_setCell _ _ _ _ (show h + 3 ≠ h + 1 by omega)).trans r3)))
 ·have st : ∀ {A B C : World}, Frame (fun q => h + 1 ≤ q ∧ q ≤ h + 3) A B → Frame (fun q => h + 1 ≤ q ∧ q ≤ h + 3) B C → Frame (fun q => h + 1 ≤ q ∧ q ≤ h + 3) A C := fun a b => a.trans b (fun _ h => .inl h)
  exact st (st (st (st (st (hF _ _ _ _ (by omega) (by omega)) (hF _ _ _ _ (by omega) (by omega))) (hF _ _ _ _ (by omega) (by omega))) (hF _ _ _ _ (by omega) (by omega))) (hF _ _ _ _ (by omega) (by omega))) (hF _ _ _ _ (by omega) (by omega))
theorem span_nil (p q : Nat) : spanF p (.slice none 0 0) (.slice none 0 0) (.slice none 0 0) [] [] q ↔ q = p := by
 constructor
 ·rintro (h | ⟨u, hu, e⟩)
  ·exact h
  ·simp only [List.append_nil, List.mem_cons, List.not_mem_nil, or_false] at hu
   rcases hu with rfl | rfl | rfl <;> cases e
 ·exact fun h => .inl h
theorem span_start {W : World} {base p : Nat} (h : W.heap[p]? = some (.cells #[.slice none 0 0, .slice none 0 0, .slice none 0 0] 100 (0, 0))) (hp : base ≤ p) : SpanO W base p (.slice none 0 0) (.slice none 0 0) (.slice none 0 0) [] [] [] :=
 ⟨h, hp, ⟨rfl, .inl ⟨rfl, rfl⟩⟩, ⟨⟨rfl, .inl ⟨rfl, rfl⟩⟩, fun j r u hr _ => by simp at hr, fun i j u u' _ hi _ => by simp at hi⟩, ⟨⟨rfl, .inl ⟨rfl, rfl⟩⟩, fun j r u hr _ => by simp at hr, fun i j u u' _ hi _ => by simp at hi⟩, fun u hu v hv => by
  rw [List.mem_singleton.1 hu]; exact .inl rfl⟩
def LeaOut (B : Nat) (a : Aut) (cols : List (List Int)) (ws : List (List Nat)) (r : Ending) (w' : World) : Prop :=
 (ws.length ≤ 12 ∧ ∃ k vs ve g6 us vw, r = .returned (.tuple #[.agg #[.int .i64 (k : Nat), vs, ve, .slice (some ⟨g6, 0, none⟩) k k], vw, .bool true]) ∧ (smallL a cols ws).letters = (k : Nat) ∧ OwnA w' B g6 k vs ve us (smallL a cols ws).start (smallL a cols ws).end_ (smallL a cols ws).steps ∧ RdV w' vw (ws.map fun x => .string (wordB x))) ∨
 (12 < ws.length ∧ r = .returned (.tuple #[.agg #[.int .i64 0, .slice none 0 0, .slice none 0 0, .slice none 0 0], .slice none 0 0, .bool false]))
theorem least_k {a : Aut} {k n : Nat} (ok : okA a k n) (hn : n ≤ 999) {cols : List (List Int)} (hcols : ColsOf a cols) {ws : List (List Nat)} (hw : Bfs (newS a cols) (kidsH k) [] [[]] ws) (s e t : Value) (w : World) (ra : RdA w s e t a) :
  Calls Tryd.prog 54 #[.agg #[.int .i64 (k : Nat), s, e, t]] w fun r w' => LeaOut w.heap.size a cols ws r w' ∧ Below w.heap.size w w' := by
 obtain ⟨As, cs, es, -, -⟩ := ra.start.cell_
 obtain ⟨Ae, ce, ee, -, -⟩ := ra.end_.cell_
 obtain ⟨At, ct, et, -, -⟩ := RdS.open_ ([] : List (List Int)) ra.steps
 rw [ok.start.1] at es
 rw [ok.end_.1] at ee
 rw [ok.steps] at et
 subst es ee et
 have hci := cols_inv ok hcols
 have hcol := Lib.hid (fun W (hW : Below w.heap.size w W) => columns_k ok hn hcols _ _ _ W (ra.below hW (Nat.le_refl _)))
 have hra := Lib.hid ra
 have hok := Lib.hid ok
 have hw' := Lib.hid hw
 have h4 : ∃ W0, (((w.alloc (.cells #[.int .i64 (k : Nat), .slice As n cs, .slice Ae n ce, .slice At k ct] 77)).alloc (.cells #[.int .i64 0, .slice none 0 0, .slice none 0 0, .slice none 0 0] 25)).alloc (.cells #[.slice none 0 0] 32)).alloc (.cells #[.bool false] 4) = W0 ∧ W0.heap.size = w.heap.size + 4 ∧ Below w.heap.size w W0 ∧
   W0.heap[w.heap.size]? = some (.cells #[.int .i64 (k : Nat), .slice As n cs, .slice Ae n ce, .slice At k ct] 77 (0, 0)) ∧ W0.heap[w.heap.size + 1]? = some (.cells #[.int .i64 0, .slice none 0 0, .slice none 0 0, .slice none 0 0] 25 (0, 0)) ∧ W0.heap[w.heap.size + 2]? = some (.cells #[.slice none 0 0] 32 (0, 0)) ∧ W0.heap[w.heap.size + 3]? = some (.cells #[.bool false] 4 (0, 0)) := by
  obtain ⟨f1, f2, f3⟩ := four w (.cells #[.int .i64 (k : Nat), .slice As n cs, .slice Ae n ce, .slice At k ct] 77) (.cells #[.int .i64 0, .slice none 0 0, .slice none 0 0, .slice none 0 0] 25) (.cells #[.slice none 0 0] 32) (.cells #[.bool false] 4)
  have f0 := heap_alloc_new w (.cells #[.int .i64 (k : Nat), .slice As n cs, .slice Ae n ce, .slice At k ct] 77)
  have g0 := heap_keep f0 (((((Below.refl _ _).alloc (Nat.le_refl _) (.cells #[.int .i64 0, .slice none 0 0, .slice none 0 0, .slice none 0 0] 25)).alloc (by simp) (.cells #[.slice none 0 0] 32)).alloc (by simp) (.cells #[.bool false] 4)))
  exact ⟨_, rfl, by simp, ((((Below.refl _ w).alloc (Nat.le_refl _) _).alloc (by simp) _).alloc (by simp; omega) _).alloc (by simp; omega) _, g0, f1, f2, f3⟩
 obtain ⟨W0, hW, hs0, hB0, b0, b1, b2, b3⟩ := h4
 replace hW := Lib.hid hW
 clear ra ok hw
 refine (callsIn_wide (n := 9)).1 ?_
 refine callsIn_of_wp_marks Tryd.func54 rfl trivial ?_ rfl
 simp only [Tryd.ntmps54, List.size_toArray, List.length_cons, List.length_nil, Nat.reduceAdd, Nat.reduceSub, Array.replicate_succ, Array.replicate_zero, List.push_toArray, List.append_toArray, List.nil_append, List.cons_append]
 gi_wp2_with fail
 rw [hW.out]
 refine ⟨trivial, ?_⟩
 refine (callsIn_wide.2 (hcol.out W0 hB0)).mono ?_; rintro e1 W3 ⟨⟨vc, rfl, rc⟩, hB3⟩
 obtain ⟨A, d, rfl, -⟩ := rc.open_
 have hb5 := (Below.refl W3.heap.size W3).alloc (Nat.le_refl _) (.cells #[.slice A cols.length d] 59)
 have hBB := Below.then_ hB3 hb5
 have b5 := heap_alloc_new W3 (.cells #[.slice A cols.length d] 59)
 have rcB := rc.below hb5 (Nat.le_refl _)
 have hsB : (W3.alloc (.cells #[.slice A cols.length d] 59)).heap.size = W3.heap.size + 1 := by simp
 have hBw := Below.then_ hB0 hBB
 have c0' := heap_keep b0 hBB
 have c1' := heap_keep b1 hBB
 have c2' := heap_keep b2 hBB
 have c3' := heap_keep b3 hBB
 have hsz3 := hB3.size
 clear rc hB3 hBB b0 b1 b2 b3 hB0 hb5
 have hX1 := (Below.refl _ (W3.alloc (.cells #[.slice A cols.length d] 59))).alloc (Nat.le_refl _) (.cells #[.slice none 0 0, .slice none 0 0, .slice none 0 0] 100)
 have hX2 := hX1.alloc hX1.size (.cells #[.slice none 0 0] 127)
 have x1 := heap_keep (heap_alloc_new (W3.alloc (.cells #[.slice A cols.length d] 59)) (.cells #[.slice none 0 0, .slice none 0 0, .slice none 0 0] 100)) ((Below.refl _ _).alloc (Nat.le_refl _) (.cells #[.slice none 0 0] 127))
 have x2 := heap_alloc_new ((W3.alloc (.cells #[.slice A cols.length d] 59)).alloc (.cells #[.slice none 0 0, .slice none 0 0, .slice none 0 0] 100)) (.cells #[.slice none 0 0] 127)
 have hsX : (((W3.alloc (.cells #[.slice A cols.length d] 59)).alloc (.cells #[.slice none 0 0, .slice none 0 0, .slice none 0 0] 100)).alloc (.cells #[.slice none 0 0] 127)).heap.size = W3.heap.size + 3 := by simp
 obtain ⟨q0, q1, q2, q3⟩ := cells4 (heap_keep c0' hX2)
 replace x1 := Lib.hid x1
 replace x2 := Lib.hid x2
 replace hsX := Lib.hid hsX
 replace hsB := Lib.hid hsB
 gi_wp2_with fail
 refine ⟨trivial, ?_⟩
 refine (callsIn_wide.2 (chosen_any k _ _ _ As Ae At n n k cs ce ct rfl rfl rfl 105 #[.pointer (some ⟨W3.heap.size, 0, none⟩)] (W3.heap.size + 1) _)).mono ?_
 rintro e2 wR ⟨rfl, hsR, hBR, y0, y1, y2⟩
 clear q0 q1 q2 q3 hX1
 have hsX' := hsX.out
 have x1' := x1.out
 have x2' := x2.out
 rw [hsX'] at hsR hBR y0 y1 y2 ⊢
 rw [hsB.out] at x1'
 rw [World.size_alloc, hsB.out] at x2'
 clear x1 x2
 generalize ((W3.alloc (.cells #[.slice A cols.length d] 59)).alloc (.cells #[.slice none 0 0, .slice none 0 0, .slice none 0 0] 100)).alloc (.cells #[.slice none 0 0] 127) = X at *
 replace hsB := hsB.out
 generalize W3.alloc (.cells #[.slice A cols.length d] 59) = wB at *
 generalize W3.heap.size = b at *
 have hBX : Below wB.heap.size wB wR := by
  have := hX2.size
  exact hX2.trans (hBR.mono (by omega))
 have x1 := heap_keep x1' (show Below X.heap.size X wR by rw [hsX']; exact hBR)
 have x2 := heap_keep x2' (show Below X.heap.size X wR by rw [hsX']; exact hBR)
 clear x1' x2' hX2 hBR hsX
 have c0 := heap_keep c0' hBX
 have c1 := heap_keep c1' hBX
 have c2 := heap_keep c2' hBX
 have c3 := heap_keep c3' hBX
 have h0 : LeaI a wR (b + 1) (b + 2) [] wR (spanF (b + 1) (.slice none 0 0) (.slice none 0 0) (.slice none 0 0) [] []) (fun k => k = b + 2) := by
  refine ⟨Frame.refl _ _, fun q hq => .inl ((span_nil _ _).1 hq), fun q hq => ?_, Nat.zero_le _, .slice none 0 0, [], rfl, by rw [show b + 2 = b + 1 + 1 from rfl]; exact x2, ⟨rfl, .inl ⟨rfl, rfl⟩⟩, fun q => ⟨fun h => .inl h, fun h => h.elim id (fun e => by cases e)⟩, fun q hq h => ?_, fun q hq => by cases hq⟩
  ·rw [span_nil] at hq; omega
  ·rw [span_nil] at h; omega
 replace c0 := Lib.hid c0
 replace c1 := Lib.hid c1
 replace c2 := Lib.hid c2
 replace c3 := Lib.hid c3
 replace h0 := Lib.hid h0
 replace x1 := Lib.hid x1
 replace x2 := Lib.hid x2
 replace hBX := Lib.hid hBX
 replace y0 := Lib.hid y0
 replace y1 := Lib.hid y1
 replace y2 := Lib.hid y2
 have hci' := Lib.hid hci
 clear hci c0' c1' c2' c3'
 gi_wp2
 refine wpIn_range_all (Rd := RdC a) (all := ws) (Ti0 := spanF (b + 1) (.slice none 0 0) (.slice none 0 0) (.slice none 0 0) [] []) (Tb0 := fun k => k = b + 2) (Pr := ChoPr wB (b + 3))
  (Fin := fun W' Ti => ∃ s L R M rs ms, SpanO W' wB.heap.size (b + 1) L R M rs ms s ∧ SpInv (ws.map fun u => seenL cols (rowW a u)) s cols.length ∧ SpShape s cols.length ∧ ∀ q, spanF (b + 1) L R M rs ms q → Ti q)
  (gf := 119) (lb := #[.pointer (some ⟨b + 3, 0, none⟩), .pointer (some ⟨b + 3 + 2, 0, none⟩), .pointer (some ⟨b + 3 + 1, 0, none⟩)]) rfl (enters_of Tryd.func119 (by kernel_rfl) rfl)
  (RdC.keep) ?hFin ?hseq ?hTi0 ?hPr (LeaI a wR (b + 1) (b + 2)) (fun pre W Ti Tb => 12 < ws.length ∧ Below w.heap.size w W ∧ W.heap[w.heap.size + 1]? = some (.cells #[.int .i64 0, .slice none 0 0, .slice none 0 0, .slice none 0 0] 25 (0, 0)) ∧ W.heap[w.heap.size + 2]? = some (.cells #[.slice none 0 0] 32 (0, 0)) ∧ W.heap[w.heap.size + 3]? = some (.cells #[.bool false] 4 (0, 0))) ?hI ?hIx ?hIt h0.out
  (fun u a' W => ∃ g x v, wR.heap.size + 2 ≤ g ∧ u = .agg #[.string (wordB x), v] ∧ W.heap[g]? = some (.cells #[.string (wordB x), v] 107 (0, 0)) ∧ a' = { tmps := #[.agg #[.int .i64 (k : Nat), .slice As n cs, .slice Ae n ce, .slice At k ct], .pointer (some ⟨w.heap.size, 0, none⟩), .pointer (some ⟨w.heap.size + 1, 0, none⟩), .pointer (some ⟨w.heap.size + 1 + 1, 0, none⟩), .pointer (some ⟨w.heap.size + 1 + 1 + 1, 0, none⟩), .pointer (some ⟨b, 0, none⟩), .func (.func 105) #[] #[.pointer (some ⟨b, 0, none⟩)], .pointer (some ⟨b + 1, 0, none⟩), .pointer (some ⟨b + 1 + 1, 0, none⟩), .pointer (some ⟨g, 0, none⟩), undef, undef, undef, undef, undef, undef, undef, .agg #[.int .i64 (k : Nat), .slice As n cs, .slice Ae n ce, .slice At k ct], .slice A cols.length d, .func (.func 105) #[] #[.pointer (some ⟨b, 0, none⟩)], .agg #[.int .i64 (k : Nat), .slice As n cs, .slice Ae n ce, .slice At k ct], .func (.func 105) #[] #[.pointer (some ⟨b, 0, none⟩)], .func (.func 119) #[] #[.pointer (some ⟨b + 3, 0, none⟩), .pointer (some ⟨b + 3 + 2, 0, none⟩), .pointer (some ⟨b + 3 + 1, 0, none⟩)], u, undef, undef, undef, undef, undef, undef, undef, undef, undef, undef, undef, undef, undef, undef, undef, undef, undef, undef, undef, undef, undef, undef, undef, undef, undef, undef, undef, undef, undef, undef, undef, undef, undef, undef, undef, undef, undef, undef, undef, undef, undef, undef, undef, undef, undef, undef, undef, undef, undef, undef, undef, undef, undef, undef, undef, undef, undef, undef, undef, undef, undef, undef, undef, undef, undef, undef, undef, undef, undef, undef, undef, undef, undef, undef, undef, undef, undef, undef, undef, undef, undef, undef, undef], defers := [] }) ?hAx ?hassign ?hbody ?hdone ?hstop
 case hFin =>
  rintro A B F Ti ⟨s, L, R, M, rs, ms, h1, h2, h3, h4⟩ hf hn
  exact ⟨s, L, R, M, rs, ms, h1.frame hf (fun k hk hF => hn k hF (h4 k hk)), h2, h3, h4⟩
 case hseq =>
  intro W hsW hBW
  have hbd := hBX.out.size
  have hWB : Below wB.heap.size wB W := hBX.out.trans (hBW.mono hbd)
  have hcl : cols.length ≤ 999 := Nat.le_trans hci'.out.le hn
  have hcc := cell_1 b5
  refine chosen_1 (a := a) (k := k) (n := n) (N := cols.length) hok.out hn hcl (seenL cols) (fun row _ _ => ⟨seenL_len _ _, seenL_bd _ _⟩) 105 #[.pointer (some ⟨b, 0, none⟩)] (enters_of Tryd.func105 (by kernel_rfl) rfl) wB W
   (fun X row vr hX rr hr hb => (seen_any cols n (by omega) hci'.out.rows (by omega) row hr hb b _ vr X ((hX.cell (World.block_lt_of_cell? _ _ hcc)).trans hcc) (rcB.below hX (Nat.le_refl _)) rr).mono (fun e w' ⟨⟨v, h1, h2⟩, h3⟩ => ⟨⟨v, h1, h2.rd (by rw [seenL_len]; omega)⟩, h3⟩))
   (.slice As n cs) (.slice Ae n ce) (.slice At k ct) (hra.out.below hBw (Nat.le_refl _)) (b + 3) (b + 1) (by omega)
   ⟨hWB, heap_keep y0.out hBW, heap_keep y1.out hBW, heap_keep y2.out hBW⟩ (by omega) (.slice none 0 0) (.slice none 0 0) (.slice none 0 0) (span_start (heap_keep x1.out hBW) (by omega)) (fun q hq hp => ?_) ws hw'.out
  rw [span_nil] at hq
  rcases hp with hp | hp <;> omega
 case hTi0 => intro q hq; rw [span_nil] at hq; omega
 case hPr => intro q hq; rcases hq with hq | hq <;> omega
 case hI =>
  intro s A B F Ti Ti' Tb h hf hF hT hB
  exact h.frame (by omega) (by omega) hf hF hT hB
 case hIx =>
  rintro s A B F Ti Tb ⟨h1, h2, h3, h4, h5⟩ hf hF
  have hz := h2.size
  have hw3 := hBw.size
  have hF2 : ∀ k, F k → w.heap.size + 4 ≤ k := fun k hk => by rcases hF k hk with e | e <;> omega
  refine ⟨h1, h2.trans (hf.below hz (fun k hk => by have := hF2 k hk; omega)), hf.heap h3 (fun h => by have := hF2 _ h; omega), hf.heap h4 (fun h => by have := hF2 _ h; omega), hf.heap h5 (fun h => by have := hF2 _ h; omega)⟩
 case hIt =>
  intro s A Ti Tb h k hk
  obtain ⟨h1, h2, h3, h4⟩ := h.lt (by omega) hk
  exact ⟨h1, h2, h3, fun hp => by rcases hp with hp | hp <;> omega⟩
 case hAx =>
  rintro u a' A B F ⟨g, x, v, h1, h2, h3, h4⟩ hf hF
  exact ⟨g, x, v, h1, h2, hf.heap h3 (fun h => by rcases hF _ h with e | e <;> omega), h4⟩
 case hassign =>
  rintro l x u W K hsz ⟨O, v, rfl, hr⟩ hK
  obtain ⟨Av, cv, rfl, -, -⟩ := hr.rd.cell_
  have hnew := heap_alloc_new W (.cells #[.string (wordB x), .slice Av (rowW a x).length cv] 107)
  gi_wp2
  exact hK _ _ ((Below.refl _ _).alloc (Nat.le_refl _) _) ⟨W.heap.size, x, _, hsz, rfl, hnew, rfl⟩
 case hbody =>
  rintro l pre x u a' W Ti Tb hI hall ⟨v', e', hr⟩ ⟨g, x', v, hg1, rfl, hg2, rfl⟩ hsz
  simp only [Value.agg.injEq, Array.mk.injEq, List.cons.injEq, Value.string.injEq, and_true] at e'
  obtain ⟨ex, rfl⟩ := e'
  rw [ex] at hg2
  obtain ⟨Av, cv, rfl, -, -⟩ := hr.rd.cell_
  obtain ⟨vw, todo, htl, hbox, hown, hne, hstep⟩ := hI.snoc (by omega) (by omega) hsz
  obtain ⟨Aw, cw, rfl⟩ := own_form hown
  obtain ⟨iC, hiC, hC0, hC1, hC2⟩ := info_parts infoC
  have hcb := cell_1 hbox
  obtain ⟨hg3, hg4⟩ := cell_two hg2
  have hal := (Below.refl W.heap.size W).alloc (Nat.le_refl _) (.cells #[.string (wordB x), .slice Av (rowW a x).length cv] 107)
  have hown2 := own_below hown hal
  have hlen := hI.len
  have hstep' := Lib.hid hstep
  have hr' := Lib.hid hr
  have hI' := Lib.hid hI
  replace hown2 := Lib.hid hown2
  have hfz : ∀ (Z : World), Z.heap[b + 2]? = some (.cells #[.slice Aw todo.length cw] 127 (0, 0)) → Z.frozen? ⟨b + 1 + 1, 0, none⟩ = false := fun Z hz => by unfold World.frozen?; rw [show b + 1 + 1 = b + 2 from rfl, hz]; rfl
  have hcz : ∀ (Z : World), Z.heap[b + 2]? = some (.cells #[.slice Aw todo.length cw] 127 (0, 0)) → Z.cell? ⟨b + 1 + 1, 0, none⟩ = some (.slice Aw todo.length cw) := fun Z hz => cell_1 hz
  have hcb1 := hcz W hbox
  replace hfz := Lib.hid hfz
  replace hcz := Lib.hid hcz
  clear hstep hr hI hown
  by_cases h12 : pre.length ≤ 11
  ·have t12 : ¬ (12 : Int) < (todo.length : Int) + 1 := by omega
   have htb : todo.length ≤ 12 := by omega
   replace htl := Lib.hid htl
   gi_wp2_with (gi_at_builtin; (refine wpListIn_append_own_at _ rfl _ _ 127 rfl (wR.heap.size + 2) 107 iC _ 2 40 Tryd.underlying127 hiC hC0 hC1 hC2 rfl (by omega) (.slice Aw todo.length cw) todo.length (choC todo) rfl hown2.out ⟨W.heap.size, 0, none⟩ 1 1 [.string (wordB x), .slice Av (rowW a x).length cv] rfl rfl (news_new W [.string (wordB x), .slice Av (rowW a x).length cv] _) (by simp [Value.oneCell']) (by unfold maxLen; omega) (by omega) (by simp; omega) ?_); intro v' w1 hown1 hgrow _ hat; obtain ⟨A8, c8, rfl⟩ := own_form hown1; obtain ⟨hb8, hfr8, hfin⟩ := hstep'.out x _ _ w1 _ hal hown1 hgrow hat hr'.out; have hf8 := hfz.out w1 hb8; have hcb8 := hcz.out w1 hb8)
   obtain ⟨Tb', k1, k2⟩ := hfin h12
   exact ⟨Tb', k1, hfr8, k2⟩
  ·have t12 : (12 : Int) < (todo.length : Int) + 1 := by omega
   have htb : todo.length ≤ 12 := by omega
   have hlw : 12 < ws.length := by
    obtain ⟨t, ht⟩ := hall
    rw [← ht, List.length_append, List.length_cons]; omega
   have hw3 := hBw.size
   have hr3 := Lib.hid (fun (Z : World) (hz : Frame Tb W Z) => by
    have hn : ∀ q, q < b → ¬ Tb q := fun q hq h => by have := (hI'.out.lt (by omega) h).2.2.2; omega
    have hq : ∀ (q : Nat) (o : Obj), q < b → wR.heap[q]? = some o → Z.heap[q]? = some o := fun q o hqb ho => hz.heap (hI'.out.fr.heap ho (by omega)) (hn q hqb)
    exact (⟨hq _ _ (by omega) c1.out, hq _ _ (by omega) c2.out, hq _ _ (by omega) c3.out⟩ : Z.heap[w.heap.size + 1]? = some (.cells #[.int .i64 0, .slice none 0 0, .slice none 0 0, .slice none 0 0] 25 (0, 0)) ∧ Z.heap[w.heap.size + 2]? = some (.cells #[.slice none 0 0] 32 (0, 0)) ∧ Z.heap[w.heap.size + 3]? = some (.cells #[.bool false] 4 (0, 0))))
   replace htl := Lib.hid htl
   gi_wp2_with (gi_at_builtin; (refine wpListIn_append_own_at _ rfl _ _ 127 rfl (wR.heap.size + 2) 107 iC _ 2 40 Tryd.underlying127 hiC hC0 hC1 hC2 rfl (by omega) (.slice Aw todo.length cw) todo.length (choC todo) rfl hown2.out ⟨W.heap.size, 0, none⟩ 1 1 [.string (wordB x), .slice Av (rowW a x).length cv] rfl rfl (news_new W [.string (wordB x), .slice Av (rowW a x).length cv] _) (by simp [Value.oneCell']) (by unfold maxLen; omega) (by omega) (by simp; omega) ?_); intro v' w1 hown1 hgrow _ hat; obtain ⟨A8, c8, rfl⟩ := own_form hown1; obtain ⟨hb8, hfr8, hfin⟩ := hstep'.out x _ _ w1 _ hal hown1 hgrow hat hr'.out; have hf8 := hfz.out w1 hb8; have hcb8 := hcz.out w1 hb8; obtain ⟨r1, r2, r3⟩ := hr3.out _ hfr8; replace r1 := (Below.heap_setCell w1 ⟨b + 2, 0, none⟩ _ _ (show w.heap.size + 1 ≠ b + 2 by omega)).symm.trans r1; replace r2 := (Below.heap_setCell w1 ⟨b + 2, 0, none⟩ _ _ (show w.heap.size + 2 ≠ b + 2 by omega)).symm.trans r2; replace r3 := (Below.heap_setCell w1 ⟨b + 2, 0, none⟩ _ _ (show w.heap.size + 3 ≠ b + 2 by omega)).symm.trans r3; obtain ⟨p0, p1, p2, p3⟩ := cells4 r1; have p4 := (show w1.cell? ⟨w.heap.size + 1 + 1, 0, none⟩ = _ from cell_1 r2); have p5 := (show w1.cell? ⟨w.heap.size + 1 + 1 + 1, 0, none⟩ = _ from cell_1 r3); have z0 := froz r1 0; have z1 := froz r1 1; have z2 := froz r1 2; have z3 := froz r1 3; have z4 := (show w1.frozen? ⟨w.heap.size + 1 + 1, 0, none⟩ = _ from froz r2 0); have z5 := (show w1.frozen? ⟨w.heap.size + 1 + 1 + 1, 0, none⟩ = _ from froz r3 0))
   obtain ⟨s1, s2, s3⟩ := hr3.out _ hfr8
   obtain ⟨E, hE, t1, t2, t3, hfE⟩ := stop_cells s1 s2 s3
   have hE' : _ = E := hE
   rw [show b + 1 + 1 = b + 2 from rfl, hE']
   refine ⟨fun _ => False, fun q => Tb q ∨ (w.heap.size + 1 ≤ q ∧ q ≤ w.heap.size + 3), ⟨hlw, ?_, t1, t2, t3⟩, (hfr8.mono (fun q h => .inl h)).trans (hfE.mono (fun q h => .inr h)) (fun q h => .inl h), fun q hq => hq.imp id (fun h => by omega)⟩
   have hsR2 := hBX.out.size
   have hsW := hI'.out.fr.size
   have hTw : ∀ q, Tb q → w.heap.size ≤ q := fun q h => by have := (hI'.out.lt (by omega) h).2.2.2; omega
   refine ((hBw.trans (hBX.out.mono hw3)).trans (hI'.out.fr.below (by omega) (fun q h => by omega))).trans (Frame.below (F := fun q => Tb q ∨ (w.heap.size + 1 ≤ q ∧ q ≤ w.heap.size + 3)) ((hfr8.mono (fun q h => .inl h)).trans (hfE.mono (fun q h => .inr h)) (fun q h => .inl h)) (by omega) (fun q h => ?_))
   rcases h with h | h
   ·exact hTw q h
   ·omega
 case hdone =>
  rintro D W Ti Tb hD hI ⟨s, L, R, M, rs, ms, k1, k2, k3, k4⟩ hK
  have hw3 := hBw.size
  have hsR2 := hBX.out.size
  have hsW := hI.fr.size
  have hnT : ∀ q, q < b + 1 → ¬ Tb q := fun q hq h => by have := (hI.lt (by omega) h).2.2.2; omega
  have hq : ∀ (q : Nat) (o : Obj), q ≠ b + 1 → q ≠ b + 2 → wR.heap[q]? = some o → W.heap[q]? = some o := fun q o h1 h2 ho => hI.fr.heap ho (fun h => h.elim h1 h2)
  have d0 := hq _ _ (by omega) (by omega) c0.out
  have d1 := hq _ _ (by omega) (by omega) c1.out
  have d2 := hq _ _ (by omega) (by omega) c2.out
  have d3 := hq _ _ (by omega) (by omega) c3.out
  obtain ⟨q0, q1, q2, q3⟩ := cells4 d0
  replace hI := Lib.hid hI
  replace k1 := Lib.hid k1
  replace k2 := Lib.hid k2
  replace k3 := Lib.hid k3
  replace k4 := Lib.hid k4
  replace hq := Lib.hid hq
  have hkp := hok.out.pos
  have hmk := run_make_row' (P := Tryd.prog) 23 59 _ _ Tryd.underlying23 infoRR rfl .i64 .i64 k (by omega) (by omega)
  have hT : Hid (Below W.heap.size W W) := Lib.hid (Below.refl _ _)
  gi_wp2
  rw [wpIn_wide]
  refine Code.wp_mono (Q := Exit.then _ (fun _ _ _ => False)) (no_exit _ _) ?_
  have hwb : w.heap.size < W.heap.size := by omega
  have e0 := Lib.hid d0
  have hwW := Lib.hid (((hBw.trans (hBX.out.mono hw3)).trans (hI.out.fr.below (by omega) (fun q h => by omega))) : Below w.heap.size w W)
  have hBW : Below wB.heap.size wB W := hBX.out.trans (hI.out.fr.below (by omega) (fun q h => by omega))
  have egc : W.cell? ⟨b, 0, none⟩ = some (.slice A cols.length d) := cell_1 (heap_keep b5 hBW)
  have erc := rcB.below hBW (Nat.le_refl _)
  have k3l := k3.out.len
  have esp := k1.out.rd (by omega) (fun q hq => ⟨by rw [(k3.out.rows q hq).2.1]; have := hci'.out.le; omega, by have := (k3.out.rows q hq).2.2.1; omega⟩)
  obtain ⟨vl, todo, t1, t2, t3, -, -, t4⟩ := hI.out.ex
  have tl : todo.length = ws.length := by rw [← t1, List.length_map]
  obtain ⟨Al, cl, e⟩ := own_form t3
  rw [tl] at e
  subst e
  have epl : W.cell? ⟨b + 1 + 1, 0, none⟩ = some (.slice Al ws.length cl) := cell_1 (show W.heap[b + 1 + 1]? = _ from t2)
  have ell := LeaL.of (n := n) t1 t3 t4 (fun w => rowW_len hok.out w)
  have hzA := Lib.hid hsW
  replace egc := Lib.hid egc
  replace erc := Lib.hid erc
  replace esp := Lib.hid esp
  replace epl := Lib.hid epl
  replace ell := Lib.hid ell
  clear t1 t2 t3 t4
  refine D_begin (fun w' => w'.heap[w.heap.size]? = some (.cells #[.int .i64 (k : Nat), .slice As n cs, .slice Ae n ce, .slice At k ct] 77 (0, 0))) (fun _ => True) 99 (by kernel_rfl) ?_
  change wpAnyD _ _ _ _ _ _ _ _ _ _ W.drew
  simp only [List.size_toArray, List.length_cons, List.length_nil, Nat.reduceAdd, Array.replicate_succ, Array.replicate_zero, List.push_toArray, List.append_toArray, List.nil_append, List.cons_append]
  have hD8 : Below W.heap.size W W.drew := (Below.refl _ _).drew
  replace hT := Lib.hid (Below.then_ hT.out hD8)
  replace d0 := heap_keep d0 hD8
  have z_D8 := hD8.size; clear hD8
  generalize W.drew = D8 at *
  refine Dt 0 rfl ?_ d0 (fun _ => trivial) ?_ ?_
  rotate_left; · intro w1 hw1; obtain ⟨q0, q1, q2, q3⟩ := cells4 hw1; go_simp; try with_reducible rfl
  try simp only [Act.put, s_1, s_2, s_3, s_4, s_5, s_6]
  refine Dt 3 rfl ?_ d0 (fun _ => trivial) ?_ ?_
  rotate_left; · intro w1 hw1; obtain ⟨q0, q1, q2, q3⟩ := cells4 hw1; go_simp; try with_reducible rfl
  try simp only [Act.put, s_1, s_2, s_3, s_4, s_5, s_6]
  refine Dt 1 rfl ?_ d0 (fun _ => trivial) ?_ ?_
  rotate_left; · intro w1 hw1; obtain ⟨q0, q1, q2, q3⟩ := cells4 hw1; go_simp; try with_reducible rfl
  try simp only [Act.put, s_1, s_2, s_3, s_4, s_5, s_6]
  refine Dt 4 rfl ?_ d0 (fun _ => trivial) ?_ ?_
  rotate_left; · intro w1 hw1; obtain ⟨q0, q1, q2, q3⟩ := cells4 hw1; go_simp; try with_reducible rfl
  try simp only [Act.put, s_1, s_2, s_3, s_4, s_5, s_6]
  refine Dt 2 rfl ?_ d0 (fun _ => trivial) ?_ ?_
  rotate_left; · intro w1 hw1; obtain ⟨q0, q1, q2, q3⟩ := cells4 hw1; go_simp; try with_reducible rfl
  try simp only [Act.put, s_1, s_2, s_3, s_4, s_5, s_6]
  refine Dt 5 rfl ?_ d0 (fun _ => trivial) ?_ ?_
  rotate_left; · intro w1 hw1; obtain ⟨q0, q1, q2, q3⟩ := cells4 hw1; go_simp; try with_reducible rfl
  try simp only [Act.put, s_1, s_2, s_3, s_4, s_5, s_6]
  refine D_two (i := 6) (j := 8) (by kernel_rfl) rfl rfl ?_ ?_
  ·skip
   intro K hK
   rw [if_pos (by rfl)]
   go_simp
   have hE1 : Below D8.heap.size D8 (D8.alloc (.cells (madeCells #[.slice none 0 0] k) 59)) := (Below.refl _ _).alloc (Nat.le_refl _) _
   replace hT := Lib.hid (Below.then_ hT.out hE1)
   replace d0 := heap_keep d0 hE1
   have s6 := heap_alloc_new D8 (.cells (madeCells #[.slice none 0 0] k) 59)
   obtain ⟨g6, e6⟩ : ∃ g, D8.heap.size = g := ⟨_, rfl⟩
   rw [e6] at s6 ⊢
   have z_1 : D8.heap.size < (D8.alloc (.cells (madeCells #[.slice none 0 0] k) 59)).heap.size := by simp
   clear hE1
   refine hK _ _ d0 (fun _ _ => trivial) ?_
   clear hK K
   try simp only [Act.put, s_1, s_2, s_3, s_4, s_5, s_6]
   generalize (D8.alloc (.cells (madeCells #[.slice none 0 0] k) 59)) = D8_1 at *
   refine Dt 7 rfl ?_ d0 (fun _ => trivial) ?_ ?_
   rotate_left; · intro w1 hw1; obtain ⟨q0, q1, q2, q3⟩ := cells4 hw1; go_simp; try with_reducible rfl
   try simp only [Act.put, s_1, s_2, s_3, s_4, s_5, s_6]
   refine D_one (i := 8) (by kernel_rfl) rfl ?_
   intro K hK
   rw [if_pos (by rfl)]
   go_simp
   have hE2 : Below D8_1.heap.size D8_1 (D8_1.alloc (.cells #[.int .i64 0, .slice none 0 0, .slice none 0 0, .slice none 0 0] 25)) := (Below.refl _ _).alloc (Nat.le_refl _) _
   replace hT := Lib.hid (Below.then_ hT.out hE2)
   replace d0 := heap_keep d0 hE2
   replace s6 := heap_keep s6 hE2
   have s8 := heap_alloc_new D8_1 (.cells #[.int .i64 0, .slice none 0 0, .slice none 0 0, .slice none 0 0] 25)
   obtain ⟨g8, e8⟩ : ∃ g, D8_1.heap.size = g := ⟨_, rfl⟩
   rw [e8] at s8 ⊢
   have z_2 : D8_1.heap.size < (D8_1.alloc (.cells #[.int .i64 0, .slice none 0 0, .slice none 0 0, .slice none 0 0] 25)).heap.size := by simp
   clear hE2
   refine hK _ _ d0 (fun _ _ => trivial) ?_
   clear hK K
   try simp only [Act.put, s_1, s_2, s_3, s_4, s_5, s_6]
   generalize (D8_1.alloc (.cells #[.int .i64 0, .slice none 0 0, .slice none 0 0, .slice none 0 0] 25)) = D8_2 at *
   refine D_one (i := 9) (by kernel_rfl) rfl ?_
   intro K hK
   rw [if_pos (by rfl)]
   obtain ⟨y0, y1, y2, y3⟩ := cells4 s8
   have f0 := froz s8 0; have f1 := froz s8 1; have f2 := froz s8 2; have f3 := froz s8 3
   go_simp
   have hne : w.heap.size ≠ g8 := by omega
   replace d0 := (Below.heap_setCell _ ⟨g8, 3, none⟩ (.slice (some ⟨g6, 0, none⟩) k k) _ hne).trans ((Below.heap_setCell _ ⟨g8, 2, none⟩ (.slice none 0 0) _ hne).trans ((Below.heap_setCell _ ⟨g8, 1, none⟩ (.slice none 0 0) _ hne).trans ((Below.heap_setCell _ ⟨g8, 0, none⟩ (.int .i64 (k : Nat)) _ hne).trans d0)))
   refine hK _ _ d0 (fun _ _ => trivial) ?_
   clear hK K
   try simp only [Act.put, s_1, s_2, s_3, s_4, s_5, s_6]
   refine D_done (by kernel_rfl) ?_ _
   rename (∀ (a : Act) (w : World), Code.wpIn _ _ _ _ _ a w → _) => hK2
   refine hK2 _ _ ?_
   clear hK2
   rw [wpIn_wide]
   refine lea_tail a k n hok hn cols hci' ws hI.out.len s k3 (fun w x => (splitL s (seenL cols (rowW a (w ++ [x]))) (List.replicate s.length 0)).2) (Lib.hid fun _ _ => rfl) As Ae At cs ce ct W _ w.heap.size (w.heap.size + 1) (w.heap.size + 1 + 1) (w.heap.size + 1 + 1 + 1) b (b + 1) (b + 1 + 1) g6 g8 A d Al cl (Lib.hid (hra.out.below hwW.out (Nat.le_refl _))) e0 egc erc esp epl ell (Lib.hid d1) (Lib.hid d2) (Lib.hid d3) (by omega) (by omega) (by omega) (Lib.hid ?_) _ (Lib.hid ?_)
   ·refine ⟨.slice none 0 0, .slice none 0 0, List.replicate k (.slice none 0 0), ?_⟩
    rw [spW_zero]
    exact lea_start hT.out s6 s8 rfl (by omega) (by omega) (by omega)
   ·intro tm W' vs ve vw us t2 t3 t4 hS
    have hKD : W.heap[b + 3 + 3]? = some (.deferred (some [])) := by rw [← hsR, ← hD]; exact hK
    obtain ⟨f0, f1, f2, f3, f4, f5, f6⟩ := lea_end hS d1 d2 d3 hKD rfl rfl rfl _ rfl
    have hsm := least_small hok.out hcols hw'.out k2.out
    refine ⟨by simp, .inl ⟨_, _, rfl, run_takeDeferred f0, ?_⟩⟩
    refine ⟨_, res_lea rfl _ _ _ _ _ _ _ _ _ _ _ t2 t3 t4 f1 (cell_1 f2) (cell_1 f3), .inl ⟨hI.out.len, k, vs, ve, g6, us, vw, rfl, ?_, ?_, ?_⟩, ?_⟩
    ·exact hok.out.letters
    ·rw [← hsm]
     unfold leastL
     rw [hok.out.steps]
     exact f4.base (Nat.le_of_lt hwb)
    ·have := own_RdV f5 (by rw [List.length_map]; have := hI.out.len; omega)
     exact this
    ·exact hwW.out.trans (f6.below (Nat.le_of_lt hwb) (fun q hq => by rcases hq with h | h | h | h | h <;> omega))
  ·skip
   intro K hK
   rw [if_pos (by rfl)]
   go_simp
   have hE3 : Below D8.heap.size D8 (D8.alloc (.cells #[.int .i64 0, .slice none 0 0, .slice none 0 0, .slice none 0 0] 25)) := (Below.refl _ _).alloc (Nat.le_refl _) _
   replace hT := Lib.hid (Below.then_ hT.out hE3)
   replace d0 := heap_keep d0 hE3
   have s8 := heap_alloc_new D8 (.cells #[.int .i64 0, .slice none 0 0, .slice none 0 0, .slice none 0 0] 25)
   obtain ⟨g8, e8⟩ : ∃ g, D8.heap.size = g := ⟨_, rfl⟩
   rw [e8] at s8 ⊢
   have z_3 : D8.heap.size < (D8.alloc (.cells #[.int .i64 0, .slice none 0 0, .slice none 0 0, .slice none 0 0] 25)).heap.size := by simp
   clear hE3
   refine hK _ _ d0 (fun _ _ => trivial) ?_
   clear hK K
   try simp only [Act.put, s_1, s_2, s_3, s_4, s_5, s_6]
   generalize (D8.alloc (.cells #[.int .i64 0, .slice none 0 0, .slice none 0 0, .slice none 0 0] 25)) = D8_3 at *
   refine D_one (i := 6) (by kernel_rfl) rfl ?_
   intro K hK
   rw [if_pos (by rfl)]
   go_simp
   have hE4 : Below D8_3.heap.size D8_3 (D8_3.alloc (.cells (madeCells #[.slice none 0 0] k) 59)) := (Below.refl _ _).alloc (Nat.le_refl _) _
   replace hT := Lib.hid (Below.then_ hT.out hE4)
   replace d0 := heap_keep d0 hE4
   replace s8 := heap_keep s8 hE4
   have s6 := heap_alloc_new D8_3 (.cells (madeCells #[.slice none 0 0] k) 59)
   obtain ⟨g6, e6⟩ : ∃ g, D8_3.heap.size = g := ⟨_, rfl⟩
   rw [e6] at s6 ⊢
   have z_4 : D8_3.heap.size < (D8_3.alloc (.cells (madeCells #[.slice none 0 0] k) 59)).heap.size := by simp
   clear hE4
   refine hK _ _ d0 (fun _ _ => trivial) ?_
   clear hK K
   try simp only [Act.put, s_1, s_2, s_3, s_4, s_5, s_6]
   generalize (D8_3.alloc (.cells (madeCells #[.slice none 0 0] k) 59)) = D8_4 at *
   refine Dt 7 rfl ?_ d0 (fun _ => trivial) ?_ ?_
   rotate_left; · intro w1 hw1; obtain ⟨q0, q1, q2, q3⟩ := cells4 hw1; go_simp; try with_reducible rfl
   try simp only [Act.put, s_1, s_2, s_3, s_4, s_5, s_6]
   refine D_one (i := 9) (by kernel_rfl) rfl ?_
   intro K hK
   rw [if_pos (by rfl)]
   obtain ⟨y0, y1, y2, y3⟩ := cells4 s8
   have f0 := froz s8 0; have f1 := froz s8 1; have f2 := froz s8 2; have f3 := froz s8 3
   go_simp
   have hne : w.heap.size ≠ g8 := by omega
   replace d0 := (Below.heap_setCell _ ⟨g8, 3, none⟩ (.slice (some ⟨g6, 0, none⟩) k k) _ hne).trans ((Below.heap_setCell _ ⟨g8, 2, none⟩ (.slice none 0 0) _ hne).trans ((Below.heap_setCell _ ⟨g8, 1, none⟩ (.slice none 0 0) _ hne).trans ((Below.heap_setCell _ ⟨g8, 0, none⟩ (.int .i64 (k : Nat)) _ hne).trans d0)))
   refine hK _ _ d0 (fun _ _ => trivial) ?_
   clear hK K
   try simp only [Act.put, s_1, s_2, s_3, s_4, s_5, s_6]
   refine D_done (by kernel_rfl) ?_ _
   rename (∀ (a : Act) (w : World), Code.wpIn _ _ _ _ _ a w → _) => hK2
   refine hK2 _ _ ?_
   clear hK2
   rw [wpIn_wide]
   refine lea_tail a k n hok hn cols hci' ws hI.out.len s k3 (fun w x => (splitL s (seenL cols (rowW a (w ++ [x]))) (List.replicate s.length 0)).2) (Lib.hid fun _ _ => rfl) As Ae At cs ce ct W _ w.heap.size (w.heap.size + 1) (w.heap.size + 1 + 1) (w.heap.size + 1 + 1 + 1) b (b + 1) (b + 1 + 1) g6 g8 A d Al cl (Lib.hid (hra.out.below hwW.out (Nat.le_refl _))) e0 egc erc esp epl ell (Lib.hid d1) (Lib.hid d2) (Lib.hid d3) (by omega) (by omega) (by omega) (Lib.hid ?_) _ (Lib.hid ?_)
   ·refine ⟨.slice none 0 0, .slice none 0 0, List.replicate k (.slice none 0 0), ?_⟩
    rw [spW_zero]
    exact lea_start hT.out s6 s8 rfl (by omega) (by omega) (by omega)
   ·intro tm W' vs ve vw us t2 t3 t4 hS
    have hKD : W.heap[b + 3 + 3]? = some (.deferred (some [])) := by rw [← hsR, ← hD]; exact hK
    obtain ⟨f0, f1, f2, f3, f4, f5, f6⟩ := lea_end hS d1 d2 d3 hKD rfl rfl rfl _ rfl
    have hsm := least_small hok.out hcols hw'.out k2.out
    refine ⟨by simp, .inl ⟨_, _, rfl, run_takeDeferred f0, ?_⟩⟩
    refine ⟨_, res_lea rfl _ _ _ _ _ _ _ _ _ _ _ t2 t3 t4 f1 (cell_1 f2) (cell_1 f3), .inl ⟨hI.out.len, k, vs, ve, g6, us, vw, rfl, ?_, ?_, ?_⟩, ?_⟩
    ·exact hok.out.letters
    ·rw [← hsm]
     unfold leastL
     rw [hok.out.steps]
     exact f4.base (Nat.le_of_lt hwb)
    ·have := own_RdV f5 (by rw [List.length_map]; have := hI.out.len; omega)
     exact this
    ·exact hwW.out.trans (f6.below (Nat.le_of_lt hwb) (fun q hq => by rcases hq with h | h | h | h | h <;> omega))
 case hstop =>
  rintro D pre W Ti Tb hD ⟨h1, h2, h3, h4, h5⟩ hK
  have hw3 := hBw.size
  have hsR2 := hBX.out.size
  have hDl := lt_of_block hK
  have hF := frame_put W D (.deferred none)
  have g3 := hF.heap h3 (fun e => by have : w.heap.size + 1 = D := e; omega)
  have g4 := hF.heap h4 (fun e => by have : w.heap.size + 2 = D := e; omega)
  have g5 := hF.heap h5 (fun e => by have : w.heap.size + 3 = D := e; omega)
  have hlow := h2.trans (hF.below (B := w.heap.size) h2.size (fun q e => by have : q = D := e; omega))
  gi_wp2
  refine ⟨by simp, .inl ⟨_, _, rfl, run_takeDeferred hK, ?_⟩⟩
  exact ⟨_, res_lea rfl _ _ (w.heap.size + 1) (w.heap.size + 2) (w.heap.size + 3) _ _ _ _ _ _ rfl rfl rfl g3 (cell_1 g4) (cell_1 g5), .inr ⟨h1, rfl⟩, hlow⟩
end Go.Proofs.YtlpldfocljnpnaaDoor
namespace Go.Proofs.YtlpldfocljnpnaaDoor
open Go.RowKit Go.Shelf
theorem IndexFunc_mat (vs : List Value) (q : Nat → Bool) (v : Value) (g : Nat) (lb : Array Value) (eg : ∀ args w, (callFunc g args).run Tryd.prog w = .ok (.enter g args) w) (w : World)
  (hv : RdV w v vs) (hq : ∀ W j u, Below w.heap.size w W → vs[j]? = some u → Calls Tryd.prog g (#[u] ++ lb) W fun e w' => e = .returned (.bool (q j)) ∧ Below w.heap.size w w') :
  Calls Tryd.prog 121 #[v, .func (.func g) #[] lb] w fun e w' => e = .returned (.int .i64 (fstIdx q vs.length)) ∧ Below w.heap.size w w' := by
 obtain ⟨A, c, rfl, h1, h2, h3⟩ := hv
 replace hq := Lib.hid hq
 replace h3 := Lib.hid h3
 go_enter Tryd.func121, Tryd.ntmps121
 go_wp2
 go_loopw [5, 8] (fun _ i wr => ∃ k : Nat, k ≤ vs.length ∧ i = .int .i64 k ∧ Below w.heap.size w wr ∧ Hid (∀ j, j < k → q j = false)) (fun _ i _ => vs.length - (intOf i).toNat)
 case atStart => exact ⟨0, Nat.zero_le _, rfl, Below.refl _ w, Lib.hid (fun j hj => absurd hj (Nat.not_lt_zero _))⟩
 case round =>
  obtain ⟨k, hk, rfl, hB, hn⟩ := hrel
  by_cases hlt : k < vs.length
  ·obtain ⟨b, off, rfl, hc⟩ := h3.out (by omega)
   have hu := List.getElem?_eq_getElem hlt
   generalize vs[k] = u at hu
   have hcall := Lib.hid (hq.out wr k u hB hu)
   have hcell := (hB.cell (p := ⟨b, off + k, none⟩) (World.block_lt_of_cell? w _ (hc k u hu))).trans (hc k u hu)
   replace hu := Lib.hid hu
   clear hc
   cases hqk : q k with
   | true =>
    rw [hqk] at hcall
    replace hqk := Lib.hid hqk
    go_wp2_with (go_at_fn g; refine hcall.out.mono ?_; rintro e w' ⟨rfl, hb'⟩)
    go_ret
    exact ⟨by rw [fstIdx_hit hlt hqk.out hn.out]; rfl, hb'⟩
   | false =>
    rw [hqk] at hcall
    replace hqk := Lib.hid hqk
    go_wp2_with (go_at_fn g; refine hcall.out.mono ?_; rintro e w' ⟨rfl, hb'⟩)
    go_roundw
    case rel => exact ⟨k + 1, by omega, by go_num, hb', Lib.hid (fun j hj => by
     by_cases e : j = k
     ·subst e; exact hqk.out
     ·exact hn.out j (by omega))⟩
    case measure => simp [intOf]; omega
  ·have : k = vs.length := by omega
   go_wp2
   go_ret
   exact ⟨by rw [fstIdx_miss (fun j hj => hn.out j (by omega))]; rfl, hB⟩
theorem ContainsFunc_mat (vs : List Value) (q : Nat → Bool) (v : Value) (g : Nat) (lb : Array Value) (eg : ∀ args w, (callFunc g args).run Tryd.prog w = .ok (.enter g args) w) (w : World)
  (hv : RdV w v vs) (hq : ∀ W j u, Below w.heap.size w W → vs[j]? = some u → Calls Tryd.prog g (#[u] ++ lb) W fun e w' => e = .returned (.bool (q j)) ∧ Below w.heap.size w w') :
  Calls Tryd.prog 86 #[v, .func (.func g) #[] lb] w fun e w' => e = .returned (.bool ((List.range vs.length).any q)) ∧ Below w.heap.size w w' := by
 have h := Lib.hid (IndexFunc_mat vs q v g lb eg w hv hq)
 have he := Lib.hid (fstIdx_nonneg q vs.length)
 clear hq hv
 go_enter Tryd.func86, Tryd.ntmps86
 go_wp2_with (go_at_call 121; refine h.out.mono ?_; rintro e w' ⟨rfl, hb⟩)
 go_ret
 exact ⟨by rw [← he.out]; rfl, hb⟩
theorem every_row_1 (q : Bool) (u : Value) (gb g : Nat) (lb : Array Value) (w : World) (hg : w.cell? ⟨gb, 0, none⟩ = some (.func (.func g) #[] lb)) (eg : ∀ args w, (callFunc g args).run Tryd.prog w = .ok (.enter g args) w) (hq : Calls Tryd.prog g (#[u] ++ lb) w fun e w' => e = .returned (.bool q) ∧ Below w.heap.size w w') :
  Calls Tryd.prog 111 (#[u] ++ #[.pointer (some ⟨gb, 0, none⟩)]) w fun e w' => e = .returned (.bool (!q)) ∧ Below w.heap.size w w' := by
 replace hq := Lib.hid hq
 go_enter Tryd.func111, Tryd.ntmps111
 go_wp2_with (go_at_fn g; refine hq.out.mono ?_; rintro e w' ⟨rfl, hb⟩)
 go_ret
 exact ⟨rfl, hb⟩
theorem every_row (vs : List Value) (q : Nat → Bool) (v : Value) (g : Nat) (lb : Array Value) (eg : ∀ args w, (callFunc g args).run Tryd.prog w = .ok (.enter g args) w) (w : World)
  (hv : RdV w v vs) (hq : ∀ W j u, Below w.heap.size w W → vs[j]? = some u → Calls Tryd.prog g (#[u] ++ lb) W fun e w' => e = .returned (.bool (q j)) ∧ Below W.heap.size W w') :
  Calls Tryd.prog 69 #[v, .func (.func g) #[] lb] w fun e w' => e = .returned (.bool ((List.range vs.length).all q)) ∧ Below w.heap.size w w' := by
 have hb0 : Below w.heap.size w (w.alloc (.cells #[.func (.func g) #[] lb] 66)) := (Below.refl _ _).alloc (Nat.le_refl _) _
 have hc := ContainsFunc_row vs (fun j => !q j) v 111 #[.pointer (some ⟨w.heap.size, 0, none⟩)] (enters_of Tryd.func111 (by kernel_rfl) rfl) (w.alloc (.cells #[.func (.func g) #[] lb] 66)) (hv.below hb0 (Nat.le_refl _)) (fun W j u hB hu =>
  (every_row_1 (q j) u w.heap.size g lb W ((hB.cell (p := ⟨w.heap.size, 0, none⟩) (by simp)).trans (cell_new _ _ _)) eg (hq W j u (hb0.trans (hB.mono hb0.size)) hu)).mono (fun e w' ⟨h1, h2⟩ => ⟨h1, hB.trans (h2.mono hB.size)⟩))
 have ha : Hid ((List.range vs.length).all q = !((List.range vs.length).any fun j => !q j)) := Lib.hid (by rw [List.all_eq_not_any_not])
 replace hc := Lib.hid hc
 clear hv hq
 go_enter Tryd.func69, Tryd.ntmps69
 go_wp2_with fail
 refine hc.out.mono ?_; rintro e w' ⟨rfl, hb⟩
 go_wp2
 go_ret
 exact ⟨by rw [ha.out]; rfl, hb0.trans (hb.mono hb0.size)⟩
theorem every_mat_1 (q : Bool) (u : Value) (gb g : Nat) (lb : Array Value) (w : World) (hg : w.cell? ⟨gb, 0, none⟩ = some (.func (.func g) #[] lb)) (eg : ∀ args w, (callFunc g args).run Tryd.prog w = .ok (.enter g args) w) (hq : Calls Tryd.prog g (#[u] ++ lb) w fun e w' => e = .returned (.bool q) ∧ Below w.heap.size w w') :
  Calls Tryd.prog 110 (#[u] ++ #[.pointer (some ⟨gb, 0, none⟩)]) w fun e w' => e = .returned (.bool (!q)) ∧ Below w.heap.size w w' := by
 replace hq := Lib.hid hq
 go_enter Tryd.func110, Tryd.ntmps110
 go_wp2_with (go_at_fn g; refine hq.out.mono ?_; rintro e w' ⟨rfl, hb⟩)
 go_ret
 exact ⟨rfl, hb⟩
theorem every_mat (vs : List Value) (q : Nat → Bool) (v : Value) (g : Nat) (lb : Array Value) (eg : ∀ args w, (callFunc g args).run Tryd.prog w = .ok (.enter g args) w) (w : World)
  (hv : RdV w v vs) (hq : ∀ W j u, Below w.heap.size w W → vs[j]? = some u → Calls Tryd.prog g (#[u] ++ lb) W fun e w' => e = .returned (.bool (q j)) ∧ Below W.heap.size W w') :
  Calls Tryd.prog 67 #[v, .func (.func g) #[] lb] w fun e w' => e = .returned (.bool ((List.range vs.length).all q)) ∧ Below w.heap.size w w' := by
 have hb0 : Below w.heap.size w (w.alloc (.cells #[.func (.func g) #[] lb] 91)) := (Below.refl _ _).alloc (Nat.le_refl _) _
 have hc := ContainsFunc_mat vs (fun j => !q j) v 110 #[.pointer (some ⟨w.heap.size, 0, none⟩)] (enters_of Tryd.func110 (by kernel_rfl) rfl) (w.alloc (.cells #[.func (.func g) #[] lb] 91)) (hv.below hb0 (Nat.le_refl _)) (fun W j u hB hu =>
  (every_mat_1 (q j) u w.heap.size g lb W ((hB.cell (p := ⟨w.heap.size, 0, none⟩) (by simp)).trans (cell_new _ _ _)) eg (hq W j u (hb0.trans (hB.mono hb0.size)) hu)).mono (fun e w' ⟨h1, h2⟩ => ⟨h1, hB.trans (h2.mono hB.size)⟩))
 have ha : Hid ((List.range vs.length).all q = !((List.range vs.length).any fun j => !q j)) := Lib.hid (by rw [List.all_eq_not_any_not])
 replace hc := Lib.hid hc
 clear hv hq
 go_enter Tryd.func67, Tryd.ntmps67
 go_wp2_with fail
 refine hc.out.mono ?_; rintro e w' ⟨rfl, hb⟩
 go_wp2
 go_ret
 exact ⟨by rw [ha.out]; rfl, hb0.trans (hb.mono hb0.size)⟩
end Go.Proofs.YtlpldfocljnpnaaDoor
namespace Go.Proofs.YtlpldfocljnpnaaDoor
open Go.RowKit Go.Shelf
theorem serRes_1 (x : Int) (w : World) (B : Nat) (w0 : World) (hB : Below B w0 w) : Calls Tryd.prog 113 #[.int .i64 x] w fun e w' => e = .returned (.bool (!isN x)) ∧ Below B w0 w' := by
 have H : Hid (isN x = (decide (0 ≤ x) && decide (x < 65521))) := Lib.hid rfl
 by_cases h1 : x < 0
 ·go_enter Tryd.func113, Tryd.ntmps113
  go_wp2
  go_ret
  exact ⟨by rw [H.out]; simp; omega, hB⟩
 ·go_enter Tryd.func113, Tryd.ntmps113
  go_wp2
  go_ret
  refine ⟨?_, hB⟩
  rw [H.out]
  have : decide (0 ≤ x) = true := by simp; omega
  rw [this]; by_cases h2 : x < 65521 <;> simp [h2] <;> omega
theorem serRes_any (xs : List Int) (v : Value) (w : World) (h : RdI w v xs) : Calls Tryd.prog 70 #[v] w fun e w' => e = .returned (.bool (isRes xs)) ∧ Below w.heap.size w w' := by
 have hc := (ContainsFunc_int (ints xs) (fun j => !isN (xs.getD j 0)) v 113 #[] (enters_of Tryd.func113 (by kernel_rfl) rfl) w h (fun W j u hB hu => by
  rw [ints_get] at hu
  obtain ⟨x, hx, rfl⟩ := Option.map_eq_some_iff.1 hu
  have : xs.getD j 0 = x := by rw [List.getD_eq_getElem?_getD, hx]; rfl
  rw [this]
  exact serRes_1 x W _ w hB))
 rw [ints_len, ← not_isRes] at hc
 replace hc := Lib.hid hc
 clear h
 go_enter Tryd.func70, Tryd.ntmps70
 go_wp2_with (go_at_call 112; refine hc.out.mono ?_; rintro e w' ⟨rfl, hb⟩)
 go_ret
 exact ⟨by simp, hb⟩
theorem all_range {α : Type} (f : α → Bool) (l : List α) (d : α) : ((List.range l.length).all fun j => f (l.getD j d)) = l.all f := by
 rw [Bool.eq_iff_iff, List.all_eq_true, List.all_eq_true]
 constructor
 ·intro h x hx
  obtain ⟨j, hj, rfl⟩ := List.getElem_of_mem hx
  have := h j (List.mem_range.2 hj)
  rwa [List.getD_eq_getElem?_getD, List.getElem?_eq_getElem hj] at this
 ·intro h j hj
  exact h _ (getD_mem' l d (List.mem_range.1 hj))
where
 getD_mem' {α : Type} (l : List α) (d : α) {i : Nat} (hi : i < l.length) : l.getD i d ∈ l := by
  rw [List.getD_eq_getElem?_getD, List.getElem?_eq_getElem hi]; exact List.getElem_mem hi
theorem serCheck_1 (n : Nat) (gn : Nat) (xs : List Int) (u : Value) (w : World) (hu : RdI w u xs) (hg : w.cell? ⟨gn, 0, none⟩ = some (.int .i64 (n : Nat))) :
  Calls Tryd.prog 66 (#[u] ++ #[.pointer (some ⟨gn, 0, none⟩)]) w fun e w' => e = .returned (.bool (xs.length == n)) ∧ Below w.heap.size w w' := by
 obtain ⟨A, c, rfl, h1, h2⟩ := hu.cell_
 clear hu
 generalize xs.length = m at *
 go_enter Tryd.func66, Tryd.ntmps66
 go_wp2
 go_ret
 refine ⟨?_, Below.refl _ _⟩
 show Ending.returned (Value.bool _) = _
 congr 2
 rw [Bool.eq_iff_iff]; simp; omega
def sqB (n : Nat) (m : List (List Int)) : Bool := m.length == n && m.all fun r => r.length == n
theorem serCheck_2 (n : Nat) (gn gl : Nat) (m : List (List Int)) (u : Value) (w : World) (hu : RdM w u m) (hg : w.cell? ⟨gn, 0, none⟩ = some (.int .i64 (n : Nat))) (hl : w.cell? ⟨gl, 0, none⟩ = some (.func (.func 66) #[] #[.pointer (some ⟨gn, 0, none⟩)])) :
  Calls Tryd.prog 68 (#[u] ++ #[.pointer (some ⟨gn, 0, none⟩), .pointer (some ⟨gl, 0, none⟩)]) w fun e w' => e = .returned (.bool (sqB n m)) ∧ Below w.heap.size w w' := by
 have hu' := hu
 obtain ⟨A, c, rfl, h1, h2, -⟩ := hu'.open_
 obtain ⟨vs, hv, hvl, hvr⟩ := hu
 have hE : Hid (sqB n m = (m.length == n && m.all fun r => r.length == n)) := Lib.hid rfl
 have hc := every_row vs (fun j => (m.getD j []).length == n) _ 66 #[.pointer (some ⟨gn, 0, none⟩)] (enters_of Tryd.func66 (by kernel_rfl) rfl) w hv (fun W j u hB hu => serCheck_1 n gn _ u W ((row_of hvl hvr hu).below hB (Nat.le_refl _)) ((hB.cell (World.block_lt_of_cell? w _ hg)).trans hg))
 rw [hvl, all_range (fun r : List Int => r.length == n)] at hc
 replace hc := Lib.hid hc
 clear hu' hv hvl hvr
 generalize (m.all fun r => r.length == n) = b at *
 generalize m.length = l at *
 by_cases e : l = n
 ·subst e
  go_enter Tryd.func68, Tryd.ntmps68
  go_wp2_with fail
  refine hc.out.mono ?_; rintro e w' ⟨rfl, hb⟩
  go_wp2
  go_ret
  exact ⟨by rw [hE.out]; simp, hb⟩
 ·have e2 : ¬ ((l : Int) = (n : Int)) := by omega
  have e3 : ((l : Int) == (n : Int)) = false := by rw [beq_eq_false_iff_ne]; exact e2
  replace e := Lib.hid e
  go_enter Tryd.func68, Tryd.ntmps68
  go_wp2
  go_ret
  refine ⟨?_, Below.refl _ _⟩
  rw [hE.out, beq_eq_false_iff_ne.2 e.out]; rfl
theorem serCheck_31 (xs : List Int) (u : Value) (w : World) (hu : RdI w u xs) : Calls Tryd.prog 72 (#[u] ++ #[]) w fun e w' => e = .returned (.bool (isRes xs)) ∧ Below w.heap.size w w' := by
 have hc := Lib.hid (serRes_any xs u w hu)
 clear hu
 go_enter Tryd.func72, Tryd.ntmps72
 go_wp2_with fail
 refine hc.out.mono ?_; rintro e w' ⟨rfl, hb⟩
 go_wp2
 go_ret
 exact ⟨rfl, hb⟩
theorem serCheck_3 (m : List (List Int)) (u : Value) (w : World) (hu : RdM w u m) : Calls Tryd.prog 71 (#[u] ++ #[]) w fun e w' => e = .returned (.bool (m.all isRes)) ∧ Below w.heap.size w w' := by
 obtain ⟨vs, hv, hvl, hvr⟩ := hu
 have hc := every_row vs (fun j => isRes (m.getD j [])) _ 72 #[] (enters_of Tryd.func72 (by kernel_rfl) rfl) w hv (fun W j u hB hu => serCheck_31 _ u W ((row_of hvl hvr hu).below hB (Nat.le_refl _)))
 rw [hvl, all_range isRes] at hc
 replace hc := Lib.hid hc
 clear hv hvl hvr
 go_enter Tryd.func71, Tryd.ntmps71
 go_wp2_with fail
 refine hc.out.mono ?_; rintro e w' ⟨rfl, hb⟩
 go_wp2
 go_ret
 exact ⟨rfl, hb⟩
theorem rowM_of {w : World} {vs : List Value} {ms : List (List (List Int))} {j : Nat} {u : Value} (hl : vs.length = ms.length) (h : ∀ (j : Nat) (m : List (List Int)) (u : Value), ms[j]? = some m → vs[j]? = some u → RdM w u m) (hu : vs[j]? = some u) : RdM w u (ms.getD j []) := by
 have hj : j < ms.length := by have := (List.getElem?_eq_some_iff.1 hu).1; omega
 exact h j _ u (by rw [List.getD_eq_getElem?_getD, List.getElem?_eq_getElem hj]; simp) hu
def checkA (a : Aut) : Int :=
 if a.letters < 1 ∨ 4 < a.letters then 3 else if 12 < a.start.length then 2
 else if (a.end_.length == a.start.length) = false ∨ ((a.steps.length : Int) == a.letters) = false ∨ (a.steps.all (sqB a.start.length)) = false then 4
 else if isRes a.start = false ∨ isRes a.end_ = false ∨ (a.steps.all fun m => m.all isRes) = false then 3 else 0
theorem three1 (w : World) (a b c : Obj) : (((w.alloc a).alloc b).alloc c).heap[w.heap.size]? = some a ∧ (((w.alloc a).alloc b).alloc c).heap[w.heap.size + 1]? = some b ∧ (((w.alloc a).alloc b).alloc c).heap[w.heap.size + 2]? = some c := by
 refine ⟨?_, ?_, ?_⟩
 ·show ((((w.heap.push a).push b).push c))[w.heap.size]? = _
  rw [Array.getElem?_push, if_neg (by simp; omega), Array.getElem?_push, if_neg (by simp), Array.getElem?_push, if_pos (by simp)]
 ·show ((((w.heap.push a).push b).push c))[w.heap.size + 1]? = _
  rw [Array.getElem?_push, if_neg (by simp), Array.getElem?_push, if_pos (by simp)]
 ·show ((((w.heap.push a).push b).push c))[w.heap.size + 2]? = _
  rw [Array.getElem?_push, if_pos (by simp)]
theorem cells4' {W : World} {g : Nat} {a b c d : Value} {T : TypeId} {fr : Nat × Nat} (h : W.heap[g]? = some (.cells #[a, b, c, d] T fr)) : W.cell? ⟨g, 0, none⟩ = some a ∧ W.cell? ⟨g, 1, none⟩ = some b ∧ W.cell? ⟨g, 2, none⟩ = some c ∧ W.cell? ⟨g, 3, none⟩ = some d := by
 unfold World.cell?; rw [h]; exact ⟨rfl, rfl, rfl, rfl⟩
theorem cell_1' {W : World} {g : Nat} {a : Value} {T : TypeId} {fr : Nat × Nat} (h : W.heap[g]? = some (.cells #[a] T fr)) : W.cell? ⟨g, 0, none⟩ = some a := by
 unfold World.cell?; rw [h]; rfl
theorem checkA_1 {a : Aut} (h : a.letters < 1 ∨ 4 < a.letters) : checkA a = 3 := by rw [checkA, if_pos h]
theorem checkA_2 {a : Aut} (h : ¬ (a.letters < 1 ∨ 4 < a.letters)) (h2 : 12 < a.start.length) : checkA a = 2 := by rw [checkA, if_neg h, if_pos h2]
theorem checkA_3 {a : Aut} (h : ¬ (a.letters < 1 ∨ 4 < a.letters)) (h2 : ¬ 12 < a.start.length) (h3 : (a.end_.length == a.start.length) = false ∨ ((a.steps.length : Int) == a.letters) = false ∨ (a.steps.all (sqB a.start.length)) = false) : checkA a = 4 := by rw [checkA, if_neg h, if_neg h2, if_pos h3]
theorem checkA_4 {a : Aut} (h : ¬ (a.letters < 1 ∨ 4 < a.letters)) (h2 : ¬ 12 < a.start.length) (h3 : ¬ ((a.end_.length == a.start.length) = false ∨ ((a.steps.length : Int) == a.letters) = false ∨ (a.steps.all (sqB a.start.length)) = false)) : checkA a = if isRes a.start = false ∨ isRes a.end_ = false ∨ (a.steps.all fun m => m.all isRes) = false then 3 else 0 := by rw [checkA, if_neg h, if_neg h2, if_neg h3]
theorem CheckA_any (a : Aut) (s e t : Value) (w : World) (ra : RdA w s e t a) :
  Calls Tryd.prog 24 #[.agg #[.int .i64 a.letters, s, e, t]] w fun r w' => r = .returned (.int .i64 (checkA a)) ∧ Below w.heap.size w w' := by
 have hra := ra
 obtain ⟨As, cs, rfl, -, -⟩ := ra.start.cell_
 obtain ⟨Ae, ce, rfl, -, -⟩ := ra.end_.cell_
 obtain ⟨At, ct, rfl, -, -⟩ := RdS.open_ ([] : List (List Int)) ra.steps
 obtain ⟨ws, hv, hvl, hvr⟩ := ra.steps
 have hR1 := Lib.hid (fun W (hW : Below w.heap.size w W) => serRes_any _ _ W (hra.start.below hW (Nat.le_refl _)))
 have hR2 := Lib.hid (fun W (hW : Below w.heap.size w W) => serRes_any _ _ W (hra.end_.below hW (Nat.le_refl _)))
 have hR3 := fun W (hW : Below w.heap.size w W) => every_mat ws (fun j => (a.steps.getD j []).all isRes) _ 71 #[] (enters_of Tryd.func71 (by kernel_rfl) rfl) W (hv.below hW (Nat.le_refl _)) (fun W' j u hB hu => serCheck_3 _ u W' ((rowM_of hvl hvr hu).below (hW.trans (hB.mono hW.size)) (Nat.le_refl _)))
 simp only [hvl, all_range (fun m : List (List Int) => m.all isRes)] at hR3
 obtain ⟨l, hl⟩ : ∃ l, a.letters = l := ⟨_, rfl⟩
 have hE := fun (g1 g2 : Nat) W (hW : Below w.heap.size w W) (h1 : W.cell? ⟨g1, 0, none⟩ = some (.int .i64 (a.start.length : Nat))) (h2 : W.cell? ⟨g2, 0, none⟩ = some (.func (.func 66) #[] #[.pointer (some ⟨g1, 0, none⟩)])) => every_mat ws (fun j => sqB a.start.length (a.steps.getD j [])) _ 68 #[.pointer (some ⟨g1, 0, none⟩), .pointer (some ⟨g2, 0, none⟩)] (enters_of Tryd.func68 (by kernel_rfl) rfl) W (hv.below hW (Nat.le_refl _)) (fun W' j u hB hu => serCheck_2 a.start.length g1 g2 _ u W' ((rowM_of hvl hvr hu).below (hW.trans (hB.mono hW.size)) (Nat.le_refl _)) ((hB.cell (World.block_lt_of_cell? W _ h1)).trans h1) ((hB.cell (World.block_lt_of_cell? W _ h2)).trans h2))
 simp only [hvl, all_range (sqB a.start.length)] at hE
 have r1 := @checkA_1 a
 have r2 := @checkA_2 a
 have r3 := @checkA_3 a
 have r4 := @checkA_4 a
 rw [hl] at r1 r2 r3 r4 ⊢
 clear hra hv hvl hvr ra
 generalize checkA a = R at *
 generalize isRes a.start = b1 at *
 generalize isRes a.end_ = b2 at *
 generalize (a.steps.all fun m => m.all isRes) = b3 at *
 generalize (a.steps.all (sqB a.start.length)) = b0 at *
 generalize a.start.length = n at *
 generalize a.end_.length = m at *
 generalize a.steps.length = k at *
 clear hl
 obtain ⟨x0, x1, x2⟩ := three1 w (.cells #[.int .i64 l, .slice As n cs, .slice Ae m ce, .slice At k ct] 25) (.cells #[.int .i64 (n : Nat)] 3) (.cells #[.func (.func 66) #[] #[.pointer (some ⟨w.heap.size + 1, 0, none⟩)]] 66)
 have hBX : Below w.heap.size w (((w.alloc (.cells #[.int .i64 l, .slice As n cs, .slice Ae m ce, .slice At k ct] 25)).alloc (.cells #[.int .i64 (n : Nat)] 3)).alloc (.cells #[.func (.func 66) #[] #[.pointer (some ⟨w.heap.size + 1, 0, none⟩)]] 66)) := (((Below.refl _ w).alloc (Nat.le_refl _) _).alloc (by simp) _).alloc (by simp; omega) _
 replace hR3 := Lib.hid hR3
 replace hE := Lib.hid hE
 have hBX' := Lib.hid hBX
 have x1' := Lib.hid x1
 have x2' := Lib.hid x2
 have x0' := Lib.hid x0
 obtain ⟨q0, q1, q2, q3⟩ := cells4' x0
 have q4 := cell_1' x1
 have q5 := cell_1' x2
 clear x0 x1 x2 hBX
 by_cases e1 : l < 1
 ·have hr := Lib.hid (r1 (.inl e1))
  clear r1 r2 r3 r4
  go_enter Tryd.func24, Tryd.ntmps24
  go_wp2
  go_ret
  exact ⟨by rw [hr.out]; rfl, hBX'.out⟩
 by_cases e2 : 4 < l
 ·have hr := Lib.hid (r1 (.inr e2))
  clear r1 r2 r3 r4
  go_enter Tryd.func24, Tryd.ntmps24
  go_wp2
  go_ret
  exact ⟨by rw [hr.out]; rfl, hBX'.out⟩
 have h1 : ¬ (l < 1 ∨ 4 < l) := by omega
 by_cases e3 : 12 < n
 ·have hr := Lib.hid (r2 h1 e3)
  clear r1 r2 r3 r4 h1
  have e3' : (12 : Int) < (n : Int) := by omega
  go_enter Tryd.func24, Tryd.ntmps24
  go_wp2
  go_ret
  exact ⟨by rw [hr.out]; rfl, hBX'.out⟩
 have e3' : ¬ (12 : Int) < (n : Int) := by omega
 by_cases e4 : ¬ m = n
 ·have hr := Lib.hid (r3 h1 e3 (.inl (by simpa using e4)))
  clear r1 r2 r3 r4 h1
  have y1 : ¬ (m : Int) = (n : Int) := by omega
  have y2 : ((m : Int) == (n : Int)) = false := by rw [beq_eq_false_iff_ne]; exact y1
  have y3 : ((m : Int) != (n : Int)) = true := by rw [bne_iff_ne]; exact y1
  replace e4 := Lib.hid e4
  go_enter Tryd.func24, Tryd.ntmps24
  go_wp2
  go_ret
  exact ⟨by rw [hr.out]; rfl, hBX'.out⟩
 have e4 := Decidable.of_not_not e4
 subst e4
 by_cases e5 : ¬ (k : Int) = l
 ·have hr := Lib.hid (r3 h1 e3 (.inr (.inl (by simpa using e5))))
  clear r1 r2 r3 r4 h1
  have y2 : ((k : Int) == l) = false := by rw [beq_eq_false_iff_ne]; exact e5
  have y3 : ((k : Int) != l) = true := by rw [bne_iff_ne]; exact e5
  go_enter Tryd.func24, Tryd.ntmps24
  go_wp2
  go_ret
  exact ⟨by rw [hr.out]; rfl, hBX'.out⟩
 have e5 := Decidable.of_not_not e5
 subst e5
 cases b0 with
 | false =>
  have hr := Lib.hid (r3 h1 e3 (.inr (.inr rfl)))
  clear r1 r2 r3 r4 h1
  go_enter Tryd.func24, Tryd.ntmps24
  go_wp2_with fail
  refine (hE.out _ _ _ hBX'.out q4 q5).mono ?_; rintro e W1 ⟨rfl, hb⟩
  have hB1 := Lib.hid (Below.then_ hBX'.out hb)
  go_wp2
  go_ret
  exact ⟨by rw [hr.out]; rfl, hB1.out⟩
 | true =>
  have r5 := r4 h1 e3 (by simp)
  clear r1 r2 r3 r4 h1
  cases b1 with
  | false =>
   have hr := Lib.hid (r5.trans (if_pos (.inl rfl)))
   clear r5
   go_enter Tryd.func24, Tryd.ntmps24
   go_wp2_with fail
   refine (hE.out _ _ _ hBX'.out q4 q5).mono ?_; rintro e W1 ⟨rfl, hb⟩
   have hB1 := Lib.hid (Below.then_ hBX'.out hb)
   obtain ⟨q0, q1, q2, q3⟩ := cells4' ((hb.block _ (by simp; omega)).trans x0'.out)
   go_wp2_with fail
   refine (hR1.out _ hB1.out).mono ?_; rintro e W2 ⟨rfl, hb2⟩
   have hB2 := Lib.hid (Below.then_ hB1.out hb2)
   go_wp2
   go_ret
   exact ⟨by rw [hr.out]; rfl, hB2.out⟩
  | true =>
   cases b2 with
   | false =>
    have hr := Lib.hid (r5.trans (if_pos (.inr (.inl rfl))))
    clear r5
    go_enter Tryd.func24, Tryd.ntmps24
    go_wp2_with fail
    refine (hE.out _ _ _ hBX'.out q4 q5).mono ?_; rintro e W1 ⟨rfl, hb⟩
    have hB1 := Lib.hid (Below.then_ hBX'.out hb)
    have x0 := ((hb.block _ (by simp; omega)).trans x0'.out)
    obtain ⟨q0, q1, q2, q3⟩ := cells4' x0
    go_wp2_with fail
    refine (hR1.out _ hB1.out).mono ?_; rintro e W2 ⟨rfl, hb2⟩
    have hB2 := Lib.hid (Below.then_ hB1.out hb2)
    replace x0 := (hb2.block _ (lt_of_block x0)).trans x0
    obtain ⟨q0, q1, q2, q3⟩ := cells4' x0
    go_wp2_with fail
    refine (hR2.out _ hB2.out).mono ?_; rintro e W3 ⟨rfl, hb3⟩
    have hB3 := Lib.hid (Below.then_ hB2.out hb3)
    go_wp2
    go_ret
    exact ⟨by rw [hr.out]; rfl, hB3.out⟩
   | true =>
    have hr := Lib.hid (show R = if b3 = false then 3 else 0 by rw [r5]; simp)
    clear r5
    go_enter Tryd.func24, Tryd.ntmps24
    go_wp2_with fail
    refine (hE.out _ _ _ hBX'.out q4 q5).mono ?_; rintro e W1 ⟨rfl, hb⟩
    have hB1 := Lib.hid (Below.then_ hBX'.out hb)
    have x0 := ((hb.block _ (by simp; omega)).trans x0'.out)
    obtain ⟨q0, q1, q2, q3⟩ := cells4' x0
    go_wp2_with fail
    refine (hR1.out _ hB1.out).mono ?_; rintro e W2 ⟨rfl, hb2⟩
    have hB2 := Lib.hid (Below.then_ hB1.out hb2)
    replace x0 := (hb2.block _ (lt_of_block x0)).trans x0
    obtain ⟨q0, q1, q2, q3⟩ := cells4' x0
    go_wp2_with fail
    refine (hR2.out _ hB2.out).mono ?_; rintro e W3 ⟨rfl, hb3⟩
    have hB3 := Lib.hid (Below.then_ hB2.out hb3)
    replace x0 := (hb3.block _ (lt_of_block x0)).trans x0
    obtain ⟨q0, q1, q2, q3⟩ := cells4' x0
    go_wp2_with fail
    refine (hR3.out _ hB3.out).mono ?_; rintro e W4 ⟨rfl, hb4⟩
    have hB4 := Lib.hid (Below.then_ hB3.out hb4)
    cases b3 with
    | false =>
     go_wp2
     go_ret
     exact ⟨by rw [hr.out]; rfl, hB4.out⟩
    | true =>
     go_wp2
     go_ret
     exact ⟨by rw [hr.out]; rfl, hB4.out⟩
theorem checkA_ok {a : Aut} (h : checkA a = 0) : okA a a.letters.toNat a.start.length ∧ a.start.length ≤ 12 ∧ a.letters = (a.letters.toNat : Nat) := by
 unfold checkA at h
 split at h
 ·exact absurd h (by decide)
 ·rename_i h1
  split at h
  ·exact absurd h (by decide)
  ·rename_i h2
   split at h
   ·exact absurd h (by decide)
   ·rename_i h3
    split at h
    ·exact absurd h (by decide)
    ·rename_i h4
     simp only [not_or, Bool.not_eq_false] at h3 h4
     obtain ⟨c1, c2, c3⟩ := h3
     obtain ⟨d1, d2, d3⟩ := h4
     have e1 : a.end_.length = a.start.length := by simpa using c1
     have e2 : (a.steps.length : Int) = a.letters := by simpa using c2
     have hl : a.letters = (a.letters.toNat : Nat) := by omega
     refine ⟨⟨hl, by omega, ⟨rfl, isRes_iff.1 d1⟩, ⟨e1, isRes_iff.1 d2⟩, by omega, fun m hm => ?_⟩, by omega, hl⟩
     have f1 := List.all_eq_true.1 c3 m hm
     have f2 := List.all_eq_true.1 (List.all_eq_true.1 d3 m hm)
     unfold sqB at f1
     rw [Bool.and_eq_true, List.all_eq_true] at f1
     exact ⟨by simpa using f1.1, fun r hr => ⟨by simpa using f1.2 r hr, isRes_iff.1 (f2 r hr)⟩⟩
end Go.Proofs.YtlpldfocljnpnaaDoor
