/- Layer 17 Layer 17 Layer 17 Layer 17 Layer 17 Layer 17 -/
import Derived.Test.YtlpldfocljnpnaaDoorKaa
import Derived.Test.YtlpldfocljnpnaaDoorKaj
import Derived.Test.YtlpldfocljnpnaaDoorKak
import Derived.Test.YtlpldfocljnpnaaDoorKac
set_option maxRecDepth 100000
set_option maxHeartbeats 6400000
set_option linter.unusedSimpArgs false
namespace Go.Proofs.YtlpldfocljnpnaaDoor
open Go.RowKit Go.Shelf
theorem setT_own {V : World} {g B n o : Nat} {e T : TypeId} {v u : Value} {s : Nat} {xs : List Value} {cs : Array Value} (z : V.heap[g]? = some (.cells cs T (0, 0))) (h : V.ownsRow B e s v n xs) (hne : e ≠ T) : (V.setCell ⟨g, o, none⟩ u).ownsRow B e s v n xs :=
 (Frame.setCell (F := fun q => q = g) V g o u rfl).owns h fun q hq hF => by
  obtain ⟨cs', h'⟩ := own_ty h hq
  rw [hF] at h'
  exact type_ne h' z hne
theorem news_keep {V D : World} {g : Nat} {row : Option Nat} {xs : List Value} (hg : V.grownBy D row) (hn : ∀ (j : Nat) (u : Value), xs[j]? = some u → V.cell? ((⟨g, 0, none⟩ : Addr).add j) = some u) (hne : row ≠ some g) : ∀ (j : Nat) (u : Value), xs[j]? = some u → D.cell? ((⟨g, 0, none⟩ : Addr).add j) = some u := fun j u hj => by
 have h := hn j u hj
 rw [Addr.add_lit] at h ⊢
 exact (World.cell?_of_block (hg.block g (World.block_lt_of_cell? V _ h) (fun e => hne e.symm))).trans h
theorem keep4 {V : World} {g g' : Nat} {cs cs' : Array Value} {T T' : TypeId} (z : V.heap[g]? = some (.cells cs T (0, 0))) (x : V.heap[g']? = some (.cells cs' T' (0, 0))) (hne : T' ≠ T) (a b c d : Value) : ((((V.setCell ⟨g, 0, none⟩ a).setCell ⟨g, 1, none⟩ b).setCell ⟨g, 2, none⟩ c).setCell ⟨g, 3, none⟩ d).heap[g']? = some (.cells cs' T' (0, 0)) :=
 (frame_set4 V g a b c d).heap x fun e => by subst e; exact type_ne x z hne
theorem news_below {V D : World} {g : Nat} {xs : List Value} (hE : Below V.heap.size V D) (hn : ∀ (j : Nat) (u : Value), xs[j]? = some u → V.cell? ((⟨g, 0, none⟩ : Addr).add j) = some u) : ∀ (j : Nat) (u : Value), xs[j]? = some u → D.cell? ((⟨g, 0, none⟩ : Addr).add j) = some u := fun j u hj => (hE.cell (World.block_lt_of_cell? _ _ (hn j u hj))).trans (hn j u hj)
def sti6_P (X : World) (h k n : Nat) (As Ae At : Option Addr) (cs ce ct : Nat) : Prop := (X.heap[h]? = some (.cells #[.int .i64 (k : Nat), .slice As n cs, .slice Ae n ce, .slice At k ct] 25 (0, 0)))
noncomputable def sti6_o : Array Oper := dgOps (((Tryd.f37).body.bind (dgReg 6)).getD .skip)
theorem sti6_k : dOk sti6_o 69 = true := by kernel_rfl
def sti6_F (X : World) (h k n : Nat) (As Ae At : Option Addr) (cs ce ct : Nat) (d : Nat → Bool) (V : Nat → Value) (w : World) : Prop := Below X.heap.size X w ∧ (d 0 = true → V 0 = .agg #[.int .i64 (k : Nat), .slice As n cs, .slice Ae n ce, .slice At k ct]) ∧ (d 1 = true → V 1 = .agg #[.int .i64 (k : Nat), .slice As n cs, .slice Ae n ce, .slice At k ct]) ∧ (d 2 = true → V 2 = .pointer (some ⟨h, 1, none⟩)) ∧ (d 3 = true → V 3 = .slice As n cs) ∧ (d 4 = true → V 4 = .int .i64 (n : Nat)) ∧ (d 5 = true → ∃ g, V 5 = .pointer (some ⟨g, 0, none⟩) ∧ X.heap.size ≤ g ∧ g < w.heap.size ∧ (d 7 = false → w.heap[g]? = some (.cells #[.int .i64 0, .slice none 0 0, .slice none 0 0, .slice none 0 0] 77 (0, 0))) ∧ (d 7 = true → w.heap[g]? = some (.cells #[.int .i64 (k : Nat), .slice As n cs, .slice Ae n ce, .slice At k ct] 77 (0, 0)))) ∧ (d 6 = true → ∃ g, V 6 = .pointer (some ⟨g, 0, none⟩) ∧ X.heap.size ≤ g ∧ g < w.heap.size ∧ (d 8 = false → w.heap[g]? = some (.cells #[.int .i64 0] 3 (0, 0))) ∧ (d 8 = true → w.heap[g]? = some (.cells #[.int .i64 (n : Nat)] 3 (0, 0)))) ∧ (d 7 = true → d 5 = true) ∧ (d 8 = true → d 6 = true)
theorem sti6_s {X : World} {h k n : Nat} {As Ae At : Option Addr} {cs ce ct : Nat} {Q : Exit → Act → World → Prop} {b : Array Value} (hP : sti6_P X h k n As Ae At cs ce ct) (b1 : b.getD 1 undef = .pointer (some ⟨h, 0, none⟩)) : ∀ i, i < sti6_o.size → DStep Tryd.prog .any sti6_o Q b (sti6_F X h k n As Ae At cs ce ct) i := by
 rw [show sti6_o.size = 9 from by kernel_rfl]
 intro i hi d V a w oi hoi ⟨hB, v0, v1, v2, v3, v4, f5, f6, f7, f8⟩ hdi hdp hsl K hK
 have hx := hP
 have sl := fun j t (h : dstOf sti6_o j = some t) (hd : d j = true) => (hsl t).trans (dSlot_own sti6_k h hd)
 have sb := fun t (h : noDst sti6_o t = true) => (hsl t).trans (dSlot_base h)
 clear hsl
 rcases (by omega : i = 0 ∨ i = 1 ∨ i = 2 ∨ i = 3 ∨ i = 4 ∨ i = 5 ∨ i = 6 ∨ i = 7 ∨ i = 8) with rfl | rfl | rfl | rfl | rfl | rfl | rfl | rfl | rfl
 all_goals
  conv at hoi => lhs; whnf
  obtain rfl := Option.some.inj hoi
  conv => arg 2; whnf
 ·have r1 := (sb 1 (by kernel_rfl)).trans b1
  clear sl sb hdp hoi
  obtain ⟨p0, p1, p2, p3⟩ := cells4 ((hB.block h (lt_of_block hx)).trans hx)
  go_simp
  exact hK _ _ ⟨hB, fun _ => rfl, v1, v2, v3, v4, f5, f6, f7, f8⟩
 ·have d0 := hdp 0 (by kernel_rfl)
  have r24 := sl 0 24 (by kernel_rfl) d0
  rw [(v0 d0)] at r24
  clear sl sb hdp hoi
  obtain ⟨p0, p1, p2, p3⟩ := cells4 ((hB.block h (lt_of_block hx)).trans hx)
  go_simp
  exact hK _ _ ⟨hB, v0, fun _ => rfl, v2, v3, v4, f5, f6, f7, f8⟩
 ·have r1 := (sb 1 (by kernel_rfl)).trans b1
  clear sl sb hdp hoi
  obtain ⟨p0, p1, p2, p3⟩ := cells4 ((hB.block h (lt_of_block hx)).trans hx)
  go_simp
  exact hK _ _ ⟨hB, v0, v1, fun _ => rfl, v3, v4, f5, f6, f7, f8⟩
 ·have d2 := hdp 2 (by kernel_rfl)
  have r26 := sl 2 26 (by kernel_rfl) d2
  rw [(v2 d2)] at r26
  clear sl sb hdp hoi
  obtain ⟨p0, p1, p2, p3⟩ := cells4 ((hB.block h (lt_of_block hx)).trans hx)
  go_simp
  exact hK _ _ ⟨hB, v0, v1, v2, fun _ => rfl, v4, f5, f6, f7, f8⟩
 ·have d3 := hdp 3 (by kernel_rfl)
  have r27 := sl 3 27 (by kernel_rfl) d3
  rw [(v3 d3)] at r27
  clear sl sb hdp hoi
  obtain ⟨p0, p1, p2, p3⟩ := cells4 ((hB.block h (lt_of_block hx)).trans hx)
  go_simp
  exact hK _ _ ⟨hB, v0, v1, v2, v3, fun _ => rfl, f5, f6, f7, f8⟩
 ·clear sl sb hdp hoi
  have hE : Below w.heap.size w (w.alloc (.cells #[.int .i64 0, .slice none 0 0, .slice none 0 0, .slice none 0 0] 77)) := (Below.refl _ _).alloc (Nat.le_refl _) _
  go_simp
  exact hK _ _ ⟨Below.then_ hB hE, v0, v1, v2, v3, v4, fun _ => ⟨_, rfl, hB.size, by simp, fun _ => heap_alloc_new _ _, fun z => absurd (f7 z) (by rw [hdi]; decide)⟩, fun q => by obtain ⟨g', e', h1, h2, h3, h4⟩ := f6 q; exact ⟨g', e', h1, Nat.lt_of_lt_of_le h2 hE.size, fun z => heap_keep (h3 z) hE, fun z => heap_keep (h4 z) hE⟩, fun _ => rfl, f8⟩
 ·clear sl sb hdp hoi
  have hE : Below w.heap.size w (w.alloc (.cells #[.int .i64 0] 3)) := (Below.refl _ _).alloc (Nat.le_refl _) _
  go_simp
  exact hK _ _ ⟨Below.then_ hB hE, v0, v1, v2, v3, v4, fun q => by obtain ⟨g', e', h1, h2, h3, h4⟩ := f5 q; exact ⟨g', e', h1, Nat.lt_of_lt_of_le h2 hE.size, fun z => heap_keep (h3 z) hE, fun z => heap_keep (h4 z) hE⟩, fun _ => ⟨_, rfl, hB.size, by simp, fun _ => heap_alloc_new _ _, fun z => absurd (f8 z) (by rw [hdi]; decide)⟩, f7, fun _ => rfl⟩
 ·have d0 := hdp 0 (by kernel_rfl)
  have d1 := hdp 1 (by kernel_rfl)
  have d5 := hdp 5 (by kernel_rfl)
  have d6 := hdp 6 (by kernel_rfl)
  have r5 := sl 5 5 (by kernel_rfl) d5
  have r25 := sl 1 25 (by kernel_rfl) d1
  rw [(v1 d1)] at r25
  clear sl sb hdp hoi
  obtain ⟨g, e5, g1, g2, g3, -⟩ := f5 d5
  replace g3 := g3 hdi
  rw [e5] at r5
  obtain ⟨p0, p1, p2, p3⟩ := cells4 g3
  obtain ⟨q0, q1, q2, q3⟩ := frozen4 g3
  go_simp
  exact hK undef _ ⟨hB.trans ((frame_set4 w g _ _ _ _).below hB.size (fun q h => by rw [h]; exact g1)), v0, v1, v2, v3, v4, fun _ => ⟨g, e5, g1, by simpa using g2, fun z => noB z, fun _ => heap_set4 _ _ _ _ g3⟩, fun q => by obtain ⟨g', e', h1, h2, h3, h4⟩ := f6 q; exact ⟨g', e', h1, by simpa using h2, fun z => keep4 g3 (h3 z) (by decide) _ _ _ _, fun z => keep4 g3 (h4 z) (by decide) _ _ _ _⟩, fun _ => d5, f8⟩
 ·have d0 := hdp 0 (by kernel_rfl)
  have d1 := hdp 1 (by kernel_rfl)
  have d2 := hdp 2 (by kernel_rfl)
  have d3 := hdp 3 (by kernel_rfl)
  have d4 := hdp 4 (by kernel_rfl)
  have d5 := hdp 5 (by kernel_rfl)
  have d6 := hdp 6 (by kernel_rfl)
  have d7 := hdp 7 (by kernel_rfl)
  have r6 := sl 6 6 (by kernel_rfl) d6
  have r28 := sl 4 28 (by kernel_rfl) d4
  rw [(v4 d4)] at r28
  clear sl sb hdp hoi
  obtain ⟨g, e6, g1, g2, g3, -⟩ := f6 d6
  replace g3 := g3 hdi
  rw [e6] at r6
  have p0 := cell_1 g3
  have q0 := froz g3 0
  go_simp
  exact hK undef _ ⟨hB.setCell (p := ⟨g, 0, none⟩) g1 _, v0, v1, v2, v3, v4, fun q => by obtain ⟨g', e', h1, h2, h3, h4⟩ := f5 q; exact ⟨g', e', h1, by simpa using h2, fun z => set_heap (h3 z) g3 (by decide) 0 _, fun z => set_heap (h4 z) g3 (by decide) 0 _⟩, fun _ => ⟨g, e6, g1, by simpa using g2, fun z => noB z, fun _ => heap_set1 (k := 0) (.int .i64 (n : Nat)) g3⟩, f7, fun _ => d6⟩
theorem sti6 {z0 z2 z3 z4 z5 z6 z7 z8 z9 z10 z11 z12 z13 z14 z15 z16 z17 z18 z19 z20 z21 z22 z23 z24 z25 z26 z27 z28 z29 z30 z31 z32 z33 z34 z35 z36 z37 z38 z39 z40 z41 z42 z43 z44 z45 z46 z47 z48 z49 z50 z51 z52 z53 z54 z55 z56 z57 z58 z59 z60 z61 z62 z63 z64 z65 z66 z67 z68 : Value} {ds : List Deferred} (X : World) (h k n : Nat) (As Ae At : Option Addr) (cs ce ct : Nat) (K0 : Act → World → Prop) (hP : Hid (sti6_P X h k n As Ae At cs ce ct)) (hQ : Hid (∀ (V : Nat → Value) (W : World), sti6_F X h k n As Ae At cs ce ct (fun _ => true) V W → K0 ⟨#[z0, (.pointer (some ⟨h, 0, none⟩)), z2, z3, z4, V 5, V 6, z7, z8, z9, z10, z11, z12, z13, z14, z15, z16, z17, z18, z19, z20, z21, z22, z23, V 0, V 1, V 2, V 3, V 4, z29, z30, z31, z32, z33, z34, z35, z36, z37, z38, z39, z40, z41, z42, z43, z44, z45, z46, z47, z48, z49, z50, z51, z52, z53, z54, z55, z56, z57, z58, z59, z60, z61, z62, z63, z64, z65, z66, z67, z68], ds⟩ W)) (w : World) (hB : Hid (Below X.heap.size X w)) : Code.wp Tryd.prog (Code.region 6 sti6_o true) (Exit.then K0 (fun _ _ _ => False)) ⟨#[z0, (.pointer (some ⟨h, 0, none⟩)), z2, z3, z4, z5, z6, z7, z8, z9, z10, z11, z12, z13, z14, z15, z16, z17, z18, z19, z20, z21, z22, z23, z24, z25, z26, z27, z28, z29, z30, z31, z32, z33, z34, z35, z36, z37, z38, z39, z40, z41, z42, z43, z44, z45, z46, z47, z48, z49, z50, z51, z52, z53, z54, z55, z56, z57, z58, z59, z60, z61, z62, z63, z64, z65, z66, z67, z68], ds⟩ w := by
 have hs : sti6_o.size = 9 := by kernel_rfl
 refine region_inv (sti6_F X h k n As Ae At cs ce ct) (by kernel_rfl) sti6_k ?_ ?_ (by kernel_rfl) ?_
 ·rw [hs]
  exact ⟨hB.out.drew, fun q => absurd q (by decide), fun q => absurd q (by decide), fun q => absurd q (by decide), fun q => absurd q (by decide), fun q => absurd q (by decide), fun q => absurd q (by decide), fun q => absurd q (by decide), fun q => absurd q (by decide), fun q => absurd q (by decide)⟩
 ·exact sti6_s hP.out rfl
 ·intro V W hF
  exact (congrArg (fun x => K0 x W) (by kernel_rfl)).mpr (hQ.out V W hF)
def sti7_P (X : World) (h k n g6 : Nat) (As Ae At : Option Addr) (cs ce ct : Nat) : Prop := (X.heap[h]? = some (.cells #[.int .i64 (k : Nat), .slice As n cs, .slice Ae n ce, .slice At k ct] 25 (0, 0))) ∧ (X.heap[g6]? = some (.cells #[.int .i64 (n : Nat)] 3 (0, 0))) ∧ (n ≤ 1000)
noncomputable def sti7_o : Array Oper := dgOps (((Tryd.f37).body.bind (dgReg 7)).getD .skip)
theorem sti7_k : dOk sti7_o 69 = true := by kernel_rfl
def sti7_F (X : World) (h k n : Nat) (d : Nat → Bool) (V : Nat → Value) (w : World) : Prop := Below X.heap.size X w ∧ (d 0 = true → V 0 = .pointer (some ⟨h, 0, none⟩)) ∧ (d 1 = true → V 1 = .int .i64 (k : Nat)) ∧ (d 2 = true → V 2 = .int .i64 (n : Nat)) ∧ (d 6 = true → V 6 = .int .i64 (n : Nat)) ∧ (d 10 = true → d 5 = true ∧ d 9 = true ∧ V 10 = .agg #[.int .i64 (k : Nat), V 5, V 9, .slice none 0 0]) ∧ (d 3 = true → (∃ g, V 3 = .slice (some ⟨g, 0, none⟩) n n) ∧ (d 5 = false → OwnI w X.heap.size (V 3) (List.replicate n 0))) ∧ (d 4 = true → ∃ g, V 4 = .slice (some ⟨g, 0, none⟩) 1 1 ∧ g < w.heap.size ∧ (d 5 = false → ∀ (j : Nat) (u : Value), [Value.int .i64 1][j]? = some u → w.cell? ((⟨g, 0, none⟩ : Addr).add j) = some u)) ∧ (d 7 = true → (∃ g, V 7 = .slice (some ⟨g, 0, none⟩) n n) ∧ (d 9 = false → OwnI w X.heap.size (V 7) (List.replicate n 0))) ∧ (d 8 = true → ∃ g, V 8 = .slice (some ⟨g, 0, none⟩) 1 1 ∧ g < w.heap.size ∧ (d 9 = false → ∀ (j : Nat) (u : Value), [Value.int .i64 1][j]? = some u → w.cell? ((⟨g, 0, none⟩ : Addr).add j) = some u)) ∧ (d 5 = true → (∃ A c, V 5 = .slice A (n + 1) c) ∧ OwnI w X.heap.size (V 5) (List.replicate n 0 ++ [1])) ∧ (d 9 = true → d 5 = true ∧ (∃ A c, V 9 = .slice A (n + 1) c) ∧ OwnI w X.heap.size (V 9) (List.replicate n 0 ++ [1])) ∧ (d 3 = true → d 5 = false → d 7 = true → d 9 = false → (V 7).ownBlock ≠ (V 3).ownBlock) ∧ (d 3 = true → d 5 = false → d 8 = true → d 9 = false → (V 8).ownBlock ≠ (V 3).ownBlock) ∧ (d 5 = true → d 7 = true → d 9 = false → (V 5).ownBlock = none ∨ (V 5).ownBlock ≠ (V 7).ownBlock) ∧ (d 11 = true → ∃ g, V 11 = .pointer (some ⟨g, 0, none⟩) ∧ X.heap.size ≤ g ∧ g < w.heap.size ∧ (d 12 = false → w.heap[g]? = some (.cells #[.int .i64 0, .slice none 0 0, .slice none 0 0, .slice none 0 0] 25 (0, 0))) ∧ (d 12 = true → w.heap[g]? = some (.cells #[.int .i64 (k : Nat), V 5, V 9, .slice none 0 0] 25 (0, 0)))) ∧ (d 12 = true → d 11 = true ∧ d 5 = true ∧ d 9 = true)
theorem sti7_s {X : World} {h k n g6 : Nat} {As Ae At : Option Addr} {cs ce ct : Nat} {Q : Exit → Act → World → Prop} {b : Array Value} (hP : sti7_P X h k n g6 As Ae At cs ce ct) (b1 : b.getD 1 undef = .pointer (some ⟨h, 0, none⟩)) (b6 : b.getD 6 undef = .pointer (some ⟨g6, 0, none⟩)) : ∀ i, i < sti7_o.size → DStep Tryd.prog .any sti7_o Q b (sti7_F X h k n) i := by
 rw [show sti7_o.size = 13 from by kernel_rfl]
 intro i hi d V a w oi hoi ⟨hB, v0, v1, v2, v6, v10, f3, f4, f7, f8, f5, f9, f37, f38, f57, f11, f12⟩ hdi hdp hsl K hK
 obtain ⟨hx, hn6, hl⟩ := hP
 have sl := fun j t (h : dstOf sti7_o j = some t) (hd : d j = true) => (hsl t).trans (dSlot_own sti7_k h hd)
 have sb := fun t (h : noDst sti7_o t = true) => (hsl t).trans (dSlot_base h)
 clear hsl
 rcases (by omega : i = 0 ∨ i = 1 ∨ i = 2 ∨ i = 3 ∨ i = 4 ∨ i = 5 ∨ i = 6 ∨ i = 7 ∨ i = 8 ∨ i = 9 ∨ i = 10 ∨ i = 11 ∨ i = 12) with rfl | rfl | rfl | rfl | rfl | rfl | rfl | rfl | rfl | rfl | rfl | rfl | rfl
 all_goals
  conv at hoi => lhs; whnf
  obtain rfl := Option.some.inj hoi
  conv => arg 2; whnf
 ·have r1 := (sb 1 (by kernel_rfl)).trans b1
  clear sl sb hdp hoi
  obtain ⟨p0, p1, p2, p3⟩ := cells4 ((hB.block h (lt_of_block hx)).trans hx); have q6 := cell_1 ((hB.block g6 (lt_of_block hn6)).trans hn6)
  go_simp
  exact hK _ _ ⟨hB, fun _ => rfl, v1, v2, v6, v10, f3, f4, f7, f8, f5, f9, f37, f38, f57, f11, f12⟩
 ·have d0 := hdp 0 (by kernel_rfl)
  have r29 := sl 0 29 (by kernel_rfl) d0
  rw [(v0 d0)] at r29
  clear sl sb hdp hoi
  obtain ⟨p0, p1, p2, p3⟩ := cells4 ((hB.block h (lt_of_block hx)).trans hx); have q6 := cell_1 ((hB.block g6 (lt_of_block hn6)).trans hn6)
  go_simp
  exact hK _ _ ⟨hB, v0, fun _ => rfl, v2, v6, v10, f3, f4, f7, f8, f5, f9, f37, f38, f57, f11, f12⟩
 ·have r6 := (sb 6 (by kernel_rfl)).trans b6
  clear sl sb hdp hoi
  obtain ⟨p0, p1, p2, p3⟩ := cells4 ((hB.block h (lt_of_block hx)).trans hx); have q6 := cell_1 ((hB.block g6 (lt_of_block hn6)).trans hn6)
  go_simp
  exact hK _ _ ⟨hB, v0, v1, fun _ => rfl, v6, v10, f3, f4, f7, f8, f5, f9, f37, f38, f57, f11, f12⟩
 ·have d2 := hdp 2 (by kernel_rfl)
  have r31 := sl 2 31 (by kernel_rfl) d2
  rw [(v2 d2)] at r31
  clear sl sb hdp hoi
  have hmk := run_make_row' (P := Tryd.prog) 22 3 _ _ Tryd.underlying22 infoI rfl .i64 .i64 n (by omega) (by omega)
  have hE : Below w.heap.size w (w.alloc (.cells (madeCells #[.int .i64 0] n) 3)) := (Below.refl _ _).alloc (Nat.le_refl _) _
  go_simp
  exact hK _ _ ⟨Below.then_ hB hE, v0, v1, v2, v6, v10, fun _ => ⟨⟨_, rfl⟩, fun _ => OwnI_made w X.heap.size n hB.size (by unfold maxLen; omega)⟩, fun q => by obtain ⟨g, e, h1, h2⟩ := f4 q; exact ⟨g, e, Nat.lt_of_lt_of_le h1 hE.size, fun z => news_below hE (h2 z)⟩, fun q => ⟨(f7 q).1, fun z => OwnI.below ((f7 q).2 z) hE⟩, fun q => by obtain ⟨g, e, h1, h2⟩ := f8 q; exact ⟨g, e, Nat.lt_of_lt_of_le h1 hE.size, fun z => news_below hE (h2 z)⟩, fun q => ⟨(f5 q).1, (f5 q).2.below hE⟩, fun q => ⟨(f9 q).1, (f9 q).2.1, (f9 q).2.2.below hE⟩, fun _ _ q z e => by have h1 := (((f7 q).2 z).lt _ e).2; exact Nat.lt_irrefl _ h1, fun _ _ q z e => by obtain ⟨g, e1, h1, -⟩ := f8 q; rw [show updV V 3 _ 8 = V 8 from rfl, e1] at e; cases e; exact Nat.lt_irrefl _ h1, f57, fun q => by obtain ⟨g', e', h1, h2, h3, h4⟩ := f11 q; exact ⟨g', e', h1, Nat.lt_of_lt_of_le h2 hE.size, fun z => heap_keep (h3 z) hE, fun z => heap_keep (h4 z) hE⟩, f12⟩
 ·clear sl sb hdp hoi
  have hE : Below w.heap.size w (w.alloc (.cells #[.int .i64 1] 3)) := (Below.refl _ _).alloc (Nat.le_refl _) _
  go_simp
  exact hK _ _ ⟨Below.then_ hB hE, v0, v1, v2, v6, v10, fun q => ⟨(f3 q).1, fun z => OwnI.below ((f3 q).2 z) hE⟩, fun _ => ⟨_, rfl, by simp, fun _ => news_new _ _ _⟩, fun q => ⟨(f7 q).1, fun z => OwnI.below ((f7 q).2 z) hE⟩, fun q => by obtain ⟨g, e, h1, h2⟩ := f8 q; exact ⟨g, e, Nat.lt_of_lt_of_le h1 hE.size, fun z => news_below hE (h2 z)⟩, fun q => ⟨(f5 q).1, (f5 q).2.below hE⟩, fun q => ⟨(f9 q).1, (f9 q).2.1, (f9 q).2.2.below hE⟩, f37, f38, f57, fun q => by obtain ⟨g', e', h1, h2, h3, h4⟩ := f11 q; exact ⟨g', e', h1, Nat.lt_of_lt_of_le h2 hE.size, fun z => heap_keep (h3 z) hE, fun z => heap_keep (h4 z) hE⟩, f12⟩
 ·have d3 := hdp 3 (by kernel_rfl)
  have d4 := hdp 4 (by kernel_rfl)
  have r32 := sl 3 32 (by kernel_rfl) d3
  have r33 := sl 4 33 (by kernel_rfl) d4
  clear sl sb hdp hoi
  obtain ⟨⟨gm, em⟩, om⟩ := f3 d3
  replace om := om hdi
  obtain ⟨go, eo, lo, no⟩ := f4 d4
  replace no := no hdi
  rw [em] at r32 om
  rw [eo] at r33
  obtain ⟨iI, hiI, jI0, jI1, jI2⟩ := info_parts infoI
  have on : w.ownsRow X.heap.size 3 1 (.slice (some ⟨gm, 0, none⟩) n n) n (ints (List.replicate n 0)) := by have h := om; unfold OwnI at h; rwa [List.length_replicate] at h
  refine op_of_step rfl (step_app1 (by rfl) _ _ 22 (by rfl) 3 iI _ 1 8 Tryd.underlying22 hiI jI0 jI1 jI2 (by rfl) (by omega) (by omega) X.heap.size (.slice (some ⟨gm, 0, none⟩) n n) n (ints (List.replicate n 0)) (eval_tmp r32) on ⟨go, 0, none⟩ [.int .i64 1] (eval_tmp r33) rfl no (by simp [Value.oneCell']) (by omega) hB.size ?_)
  intro A c W2 hown hgrow hat
  have oD := own_snoc1 (xs := List.replicate n 0) (x := 1) (by simp) hown
  exact hK _ _ ⟨hB.grown hgrow hB.size (fun q hq => (om.lt q hq).1), v0, v1, v2, v6, fun q => absurd (v10 q).1 (by rw [hdi]; decide), fun q => ⟨(f3 q).1, fun z => noB z⟩, fun q => by obtain ⟨g, e, h1, h2⟩ := f4 q; exact ⟨g, e, Nat.lt_of_lt_of_le h1 hgrow.size, fun z => noB z⟩, fun q => ⟨(f7 q).1, fun z => OwnI.base (World.ownsRow.kept ((f7 q).2 z) hgrow (.inr (fun e => f37 d3 hdi q z (by rw [em]; exact e)))) (Nat.le_refl _)⟩, fun q => by obtain ⟨g, e, h1, h2⟩ := f8 q; exact ⟨g, e, Nat.lt_of_lt_of_le h1 hgrow.size, fun z => news_keep hgrow (h2 z) (fun e2 => f38 d3 hdi q z (by rw [e, em]; exact e2.symm))⟩, fun _ => ⟨⟨_, _, rfl⟩, oD⟩, fun q => absurd (f9 q).1 (by rw [hdi]; decide), fun _ z => noB z, fun _ z => noB z, fun _ q z => by rcases hat with h | h; exact .inr (fun e => f37 d3 hdi q z (by rw [em]; exact e.symm.trans h)); exact .inr (fun e => by have h1 := (((f7 q).2 z).lt _ (e.symm.trans h)).2; exact Nat.lt_irrefl _ h1), fun q => by obtain ⟨g', e', h1, h2, h3, h4⟩ := f11 q; exact ⟨g', e', h1, Nat.lt_of_lt_of_le h2 hgrow.size, fun z => grown_heap om hgrow (h3 z) (by decide), fun z => absurd (f12 z).2.1 (by rw [hdi]; decide)⟩, fun z => absurd (f12 z).2.1 (by rw [hdi]; decide)⟩
 ·have r6 := (sb 6 (by kernel_rfl)).trans b6
  clear sl sb hdp hoi
  obtain ⟨p0, p1, p2, p3⟩ := cells4 ((hB.block h (lt_of_block hx)).trans hx); have q6 := cell_1 ((hB.block g6 (lt_of_block hn6)).trans hn6)
  go_simp
  exact hK _ _ ⟨hB, v0, v1, v2, fun _ => rfl, v10, f3, f4, f7, f8, f5, f9, f37, f38, f57, f11, f12⟩
 ·have d6 := hdp 6 (by kernel_rfl)
  have r35 := sl 6 35 (by kernel_rfl) d6
  rw [(v6 d6)] at r35
  clear sl sb hdp hoi
  have hmk := run_make_row' (P := Tryd.prog) 22 3 _ _ Tryd.underlying22 infoI rfl .i64 .i64 n (by omega) (by omega)
  have hE : Below w.heap.size w (w.alloc (.cells (madeCells #[.int .i64 0] n) 3)) := (Below.refl _ _).alloc (Nat.le_refl _) _
  go_simp
  exact hK _ _ ⟨Below.then_ hB hE, v0, v1, v2, v6, v10, fun q => ⟨(f3 q).1, fun z => OwnI.below ((f3 q).2 z) hE⟩, fun q => by obtain ⟨g, e, h1, h2⟩ := f4 q; exact ⟨g, e, Nat.lt_of_lt_of_le h1 hE.size, fun z => news_below hE (h2 z)⟩, fun _ => ⟨⟨_, rfl⟩, fun _ => OwnI_made w X.heap.size n hB.size (by unfold maxLen; omega)⟩, fun q => by obtain ⟨g, e, h1, h2⟩ := f8 q; exact ⟨g, e, Nat.lt_of_lt_of_le h1 hE.size, fun z => news_below hE (h2 z)⟩, fun q => ⟨(f5 q).1, (f5 q).2.below hE⟩, fun q => ⟨(f9 q).1, (f9 q).2.1, (f9 q).2.2.below hE⟩, fun q z _ _ e => by have h1 := (((f3 q).2 z).lt _ e.symm).2; exact Nat.lt_irrefl _ h1, f38, fun q _ _ => by by_cases hn : (V 5).ownBlock = none; exact .inl hn; exact .inr (fun e => by have h1 := ((f5 q).2.lt _ e).2; exact Nat.lt_irrefl _ h1), fun q => by obtain ⟨g', e', h1, h2, h3, h4⟩ := f11 q; exact ⟨g', e', h1, Nat.lt_of_lt_of_le h2 hE.size, fun z => heap_keep (h3 z) hE, fun z => heap_keep (h4 z) hE⟩, f12⟩
 ·clear sl sb hdp hoi
  have hE : Below w.heap.size w (w.alloc (.cells #[.int .i64 1] 3)) := (Below.refl _ _).alloc (Nat.le_refl _) _
  go_simp
  exact hK _ _ ⟨Below.then_ hB hE, v0, v1, v2, v6, v10, fun q => ⟨(f3 q).1, fun z => OwnI.below ((f3 q).2 z) hE⟩, fun q => by obtain ⟨g, e, h1, h2⟩ := f4 q; exact ⟨g, e, Nat.lt_of_lt_of_le h1 hE.size, fun z => news_below hE (h2 z)⟩, fun q => ⟨(f7 q).1, fun z => OwnI.below ((f7 q).2 z) hE⟩, fun _ => ⟨_, rfl, by simp, fun _ => news_new _ _ _⟩, fun q => ⟨(f5 q).1, (f5 q).2.below hE⟩, fun q => ⟨(f9 q).1, (f9 q).2.1, (f9 q).2.2.below hE⟩, f37, fun q z _ _ e => by have h1 := (((f3 q).2 z).lt _ e.symm).2; exact Nat.lt_irrefl _ h1, f57, fun q => by obtain ⟨g', e', h1, h2, h3, h4⟩ := f11 q; exact ⟨g', e', h1, Nat.lt_of_lt_of_le h2 hE.size, fun z => heap_keep (h3 z) hE, fun z => heap_keep (h4 z) hE⟩, f12⟩
 ·have d5 := hdp 5 (by kernel_rfl)
  have d7 := hdp 7 (by kernel_rfl)
  have d8 := hdp 8 (by kernel_rfl)
  have r36 := sl 7 36 (by kernel_rfl) d7
  have r37 := sl 8 37 (by kernel_rfl) d8
  clear sl sb hdp hoi
  obtain ⟨⟨gm, em⟩, om⟩ := f7 d7
  replace om := om hdi
  obtain ⟨go, eo, lo, no⟩ := f8 d8
  replace no := no hdi
  rw [em] at r36 om
  rw [eo] at r37
  obtain ⟨iI, hiI, jI0, jI1, jI2⟩ := info_parts infoI
  have on : w.ownsRow X.heap.size 3 1 (.slice (some ⟨gm, 0, none⟩) n n) n (ints (List.replicate n 0)) := by have h := om; unfold OwnI at h; rwa [List.length_replicate] at h
  refine op_of_step rfl (step_app1 (by rfl) _ _ 22 (by rfl) 3 iI _ 1 8 Tryd.underlying22 hiI jI0 jI1 jI2 (by rfl) (by omega) (by omega) X.heap.size (.slice (some ⟨gm, 0, none⟩) n n) n (ints (List.replicate n 0)) (eval_tmp r36) on ⟨go, 0, none⟩ [.int .i64 1] (eval_tmp r37) rfl no (by simp [Value.oneCell']) (by omega) hB.size ?_)
  intro A c W2 hown hgrow hat
  have oD := own_snoc1 (xs := List.replicate n 0) (x := 1) (by simp) hown
  exact hK _ _ ⟨hB.grown hgrow hB.size (fun q hq => (om.lt q hq).1), v0, v1, v2, v6, fun q => absurd (v10 q).2.1 (by rw [hdi]; decide), fun q => ⟨(f3 q).1, fun z => absurd (show d 5 = false from z) (by rw [d5]; decide)⟩, fun q => by obtain ⟨g, e, h1, h2⟩ := f4 q; exact ⟨g, e, Nat.lt_of_lt_of_le h1 hgrow.size, fun z => absurd (show d 5 = false from z) (by rw [d5]; decide)⟩, fun q => ⟨(f7 q).1, fun z => noB z⟩, fun q => by obtain ⟨g, e, h1, h2⟩ := f8 q; exact ⟨g, e, Nat.lt_of_lt_of_le h1 hgrow.size, fun z => noB z⟩, fun q => ⟨(f5 q).1, OwnI.base (World.ownsRow.kept (f5 q).2 hgrow (by have h := f57 q d7 hdi; rw [em] at h; exact h)) (Nat.le_refl _)⟩, fun _ => ⟨d5, ⟨_, _, rfl⟩, oD⟩, fun _ _ _ z => noB z, fun _ _ _ z => noB z, fun _ _ z => noB z, fun q => by obtain ⟨g', e', h1, h2, h3, h4⟩ := f11 q; exact ⟨g', e', h1, Nat.lt_of_lt_of_le h2 hgrow.size, fun z => grown_heap om hgrow (h3 z) (by decide), fun z => absurd (f12 z).2.2 (by rw [hdi]; decide)⟩, fun z => absurd (f12 z).2.2 (by rw [hdi]; decide)⟩
 ·have d1 := hdp 1 (by kernel_rfl)
  have d5 := hdp 5 (by kernel_rfl)
  have d9 := hdp 9 (by kernel_rfl)
  have r30 := sl 1 30 (by kernel_rfl) d1
  rw [(v1 d1)] at r30
  have r34 := sl 5 34 (by kernel_rfl) d5
  have r38 := sl 9 38 (by kernel_rfl) d9
  clear sl sb hdp hoi
  obtain ⟨⟨A5, c5, e5⟩, -⟩ := f5 d5
  obtain ⟨-, ⟨A9, c9, e9⟩, -⟩ := f9 d9
  rw [e5] at r34
  rw [e9] at r38
  go_simp
  exact hK _ _ ⟨hB, v0, v1, v2, v6, fun _ => ⟨d5, d9, by show _ = Value.agg #[_, V 5, V 9, _]; rw [e5, e9]; rfl⟩, f3, f4, f7, f8, f5, f9, f37, f38, f57, f11, f12⟩
 ·clear sl sb hdp hoi
  have hE : Below w.heap.size w (w.alloc (.cells #[.int .i64 0, .slice none 0 0, .slice none 0 0, .slice none 0 0] 25)) := (Below.refl _ _).alloc (Nat.le_refl _) _
  go_simp
  exact hK _ _ ⟨Below.then_ hB hE, v0, v1, v2, v6, v10, fun q => ⟨(f3 q).1, fun z => OwnI.below ((f3 q).2 z) hE⟩, fun q => by obtain ⟨g, e, h1, h2⟩ := f4 q; exact ⟨g, e, Nat.lt_of_lt_of_le h1 hE.size, fun z => news_below hE (h2 z)⟩, fun q => ⟨(f7 q).1, fun z => OwnI.below ((f7 q).2 z) hE⟩, fun q => by obtain ⟨g, e, h1, h2⟩ := f8 q; exact ⟨g, e, Nat.lt_of_lt_of_le h1 hE.size, fun z => news_below hE (h2 z)⟩, fun q => ⟨(f5 q).1, (f5 q).2.below hE⟩, fun q => ⟨(f9 q).1, (f9 q).2.1, (f9 q).2.2.below hE⟩, f37, f38, f57, fun _ => ⟨_, rfl, hB.size, by simp, fun _ => heap_alloc_new _ _, fun z => absurd (f12 z).1 (by rw [hdi]; decide)⟩, fun z => absurd (f12 z).1 (by rw [hdi]; decide)⟩
 ·have d0 := hdp 0 (by kernel_rfl)
  have d1 := hdp 1 (by kernel_rfl)
  have d2 := hdp 2 (by kernel_rfl)
  have d3 := hdp 3 (by kernel_rfl)
  have d4 := hdp 4 (by kernel_rfl)
  have d5 := hdp 5 (by kernel_rfl)
  have d6 := hdp 6 (by kernel_rfl)
  have d7 := hdp 7 (by kernel_rfl)
  have d8 := hdp 8 (by kernel_rfl)
  have d9 := hdp 9 (by kernel_rfl)
  have d10 := hdp 10 (by kernel_rfl)
  have d11 := hdp 11 (by kernel_rfl)
  have r7 := sl 11 7 (by kernel_rfl) d11
  have r39 := sl 10 39 (by kernel_rfl) d10
  rw [(v10 d10).2.2] at r39
  clear sl sb hdp hoi
  obtain ⟨g, e11, g1, g2, g3, -⟩ := f11 d11
  replace g3 := g3 hdi
  have e10 := (v10 d10).2.2
  obtain ⟨⟨A5, c5, e5⟩, o5⟩ := f5 d5
  obtain ⟨-, ⟨A9, c9, e9⟩, o9⟩ := f9 d9
  rw [e11] at r7
  rw [e5, e9] at r39
  obtain ⟨p0, p1, p2, p3⟩ := cells4 g3
  obtain ⟨q0, q1, q2, q3⟩ := frozen4 g3
  go_simp
  exact hK undef _ ⟨hB.trans ((frame_set4 w g _ _ _ _).below hB.size (fun q h => by rw [h]; exact g1)), v0, v1, v2, v6, v10, fun q => ⟨(f3 q).1, fun z => absurd (show d 5 = false from z) (by rw [d5]; decide)⟩, fun q => by obtain ⟨g, e, h1, h2⟩ := f4 q; exact ⟨g, e, by simpa using h1, fun z => absurd (show d 5 = false from z) (by rw [d5]; decide)⟩, fun q => ⟨(f7 q).1, fun z => absurd (show d 9 = false from z) (by rw [d9]; decide)⟩, fun q => by obtain ⟨g, e, h1, h2⟩ := f8 q; exact ⟨g, e, by simpa using h1, fun z => absurd (show d 9 = false from z) (by rw [d9]; decide)⟩, fun q => ⟨(f5 q).1, set4_own g3 o5 _ _ _ _⟩, fun q => ⟨d5, (f9 q).2.1, set4_own g3 o9 _ _ _ _⟩, f37, f38, f57, fun _ => ⟨g, e11, g1, by simpa using g2, fun z => noB z, fun _ => by show _ = some (Obj.cells #[_, V 5, V 9, _] _ _); rw [e5, e9]; exact heap_set4 _ _ _ _ g3⟩, fun _ => ⟨d11, d5, d9⟩⟩
theorem sti7 {z0 z2 z3 z4 z5 z7 z8 z9 z10 z11 z12 z13 z14 z15 z16 z17 z18 z19 z20 z21 z22 z23 z24 z25 z26 z27 z28 z29 z30 z31 z32 z33 z34 z35 z36 z37 z38 z39 z40 z41 z42 z43 z44 z45 z46 z47 z48 z49 z50 z51 z52 z53 z54 z55 z56 z57 z58 z59 z60 z61 z62 z63 z64 z65 z66 z67 z68 : Value} {ds : List Deferred} (X : World) (h k n g6 : Nat) (As Ae At : Option Addr) (cs ce ct : Nat) (K0 : Act → World → Prop) (hP : Hid (sti7_P X h k n g6 As Ae At cs ce ct)) (hQ : Hid (∀ (V : Nat → Value) (W : World), sti7_F X h k n (fun _ => true) V W → K0 ⟨#[z0, (.pointer (some ⟨h, 0, none⟩)), z2, z3, z4, z5, (.pointer (some ⟨g6, 0, none⟩)), V 11, z8, z9, z10, z11, z12, z13, z14, z15, z16, z17, z18, z19, z20, z21, z22, z23, z24, z25, z26, z27, z28, V 0, V 1, V 2, V 3, V 4, V 5, V 6, V 7, V 8, V 9, V 10, z40, z41, z42, z43, z44, z45, z46, z47, z48, z49, z50, z51, z52, z53, z54, z55, z56, z57, z58, z59, z60, z61, z62, z63, z64, z65, z66, z67, z68], ds⟩ W)) (w : World) (hB : Hid (Below X.heap.size X w)) : Code.wp Tryd.prog (Code.region 7 sti7_o true) (Exit.then K0 (fun _ _ _ => False)) ⟨#[z0, (.pointer (some ⟨h, 0, none⟩)), z2, z3, z4, z5, (.pointer (some ⟨g6, 0, none⟩)), z7, z8, z9, z10, z11, z12, z13, z14, z15, z16, z17, z18, z19, z20, z21, z22, z23, z24, z25, z26, z27, z28, z29, z30, z31, z32, z33, z34, z35, z36, z37, z38, z39, z40, z41, z42, z43, z44, z45, z46, z47, z48, z49, z50, z51, z52, z53, z54, z55, z56, z57, z58, z59, z60, z61, z62, z63, z64, z65, z66, z67, z68], ds⟩ w := by
 have hs : sti7_o.size = 13 := by kernel_rfl
 refine region_inv (sti7_F X h k n) (by kernel_rfl) sti7_k ?_ ?_ (by kernel_rfl) ?_
 ·rw [hs]
  exact ⟨hB.out.drew, fun q => absurd q (by decide), fun q => absurd q (by decide), fun q => absurd q (by decide), fun q => absurd q (by decide), fun q => absurd q (by decide), fun q => absurd q (by decide), fun q => absurd q (by decide), fun q => absurd q (by decide), fun q => absurd q (by decide), fun q => absurd q (by decide), fun q => absurd q (by decide), fun q => absurd q (by decide), fun q => absurd q (by decide), fun q => absurd q (by decide), fun q => absurd q (by decide), fun q => absurd q (by decide)⟩
 ·exact sti7_s hP.out rfl rfl
 ·intro V W hF
  exact (congrArg (fun x => K0 x W) (by kernel_rfl)).mpr (hQ.out V W hF)
def sti11_P (X : World) (h k n x g5 gq : Nat) (a : Aut) (As Ae At : Option Addr) (cs ce ct : Nat) : Prop := (X.heap[h]? = some (.cells #[.int .i64 (k : Nat), .slice As n cs, .slice Ae n ce, .slice At k ct] 25 (0, 0))) ∧ (X.heap[g5]? = some (.cells #[.int .i64 (k : Nat), .slice As n cs, .slice Ae n ce, .slice At k ct] 77 (0, 0))) ∧ (X.heap[gq]? = some (.cells #[.int .i64 (x : Nat)] 3 (0, 0))) ∧ (∀ W, Below X.heap.size X W → Calls Tryd.prog 90 #[.agg #[.int .i64 (k : Nat), .slice As n cs, .slice Ae n ce, .slice At k ct], .slice As n cs, .int .i64 (x : Nat)] W fun r w' => (∃ v, r = .returned v ∧ OwnI w' W.heap.size v (begX a x)) ∧ Below W.heap.size W w') ∧ (∀ W, Below X.heap.size X W → Calls Tryd.prog 91 #[.agg #[.int .i64 (k : Nat), .slice As n cs, .slice Ae n ce, .slice At k ct], .slice Ae n ce, .int .i64 (x : Nat)] W fun r w' => (∃ v, r = .returned v ∧ OwnI w' W.heap.size v (endX a x)) ∧ Below W.heap.size W w') ∧ ((begX a x).length = n) ∧ ((endX a x).length = n)
noncomputable def sti11_o : Array Oper := dgOps (((Tryd.f37).body.bind (dgReg 11)).getD .skip)
theorem sti11_k : dOk sti11_o 69 = true := by kernel_rfl
def sti11_F (X : World) (h k n x : Nat) (a : Aut) (As Ae At : Option Addr) (cs ce ct : Nat) (d : Nat → Bool) (V : Nat → Value) (w : World) : Prop := Below X.heap.size X w ∧ (d 0 = true → V 0 = .agg #[.int .i64 (k : Nat), .slice As n cs, .slice Ae n ce, .slice At k ct]) ∧ (d 1 = true → V 1 = .pointer (some ⟨h, 1, none⟩)) ∧ (d 2 = true → V 2 = .slice As n cs) ∧ (d 3 = true → V 3 = .int .i64 (x : Nat)) ∧ (d 5 = true → V 5 = .agg #[.int .i64 (k : Nat), .slice As n cs, .slice Ae n ce, .slice At k ct]) ∧ (d 6 = true → V 6 = .pointer (some ⟨h, 2, none⟩)) ∧ (d 7 = true → V 7 = .slice Ae n ce) ∧ (d 8 = true → V 8 = .int .i64 (x : Nat)) ∧ (d 4 = true → (∃ A c, V 4 = .slice A n c) ∧ OwnI w X.heap.size (V 4) (begX a x)) ∧ (d 9 = true → (∃ A c, V 9 = .slice A n c) ∧ OwnI w X.heap.size (V 9) (endX a x)) ∧ (d 10 = true → ∃ g, V 10 = .pointer (some ⟨g, 0, none⟩) ∧ X.heap.size ≤ g ∧ g < w.heap.size ∧ (d 12 = false → w.heap[g]? = some (.cells #[.slice none 0 0] 22 (0, 0))) ∧ (d 12 = true → w.heap[g]? = some (.cells #[V 4] 22 (0, 0)))) ∧ (d 11 = true → ∃ g, V 11 = .pointer (some ⟨g, 0, none⟩) ∧ X.heap.size ≤ g ∧ g < w.heap.size ∧ (d 13 = false → w.heap[g]? = some (.cells #[.slice none 0 0] 22 (0, 0))) ∧ (d 13 = true → w.heap[g]? = some (.cells #[V 9] 22 (0, 0)))) ∧ (d 10 = true → d 11 = true → V 10 ≠ V 11) ∧ (d 12 = true → d 10 = true ∧ d 4 = true) ∧ (d 13 = true → d 11 = true ∧ d 9 = true)
theorem sti11_s {X : World} {h k n x g5 gq : Nat} {a : Aut} {As Ae At : Option Addr} {cs ce ct : Nat} {Q : Exit → Act → World → Prop} {b : Array Value} (hP : sti11_P X h k n x g5 gq a As Ae At cs ce ct) (b1 : b.getD 1 undef = .pointer (some ⟨h, 0, none⟩)) (b5 : b.getD 5 undef = .pointer (some ⟨g5, 0, none⟩)) (b8 : b.getD 8 undef = .pointer (some ⟨gq, 0, none⟩)) : ∀ i, i < sti11_o.size → DStep Tryd.prog .any sti11_o Q b (sti11_F X h k n x a As Ae At cs ce ct) i := by
 rw [show sti11_o.size = 14 from by kernel_rfl]
 intro i hi d V a w oi hoi ⟨hB, v0, v1, v2, v3, v5, v6, v7, v8, f4, f9, f10, f11, fd, f12, f13⟩ hdi hdp hsl K hK
 obtain ⟨hx, hx5, hxq, cF, cB, hl1, hl2⟩ := hP
 have sl := fun j t (h : dstOf sti11_o j = some t) (hd : d j = true) => (hsl t).trans (dSlot_own sti11_k h hd)
 have sb := fun t (h : noDst sti11_o t = true) => (hsl t).trans (dSlot_base h)
 clear hsl
 rcases (by omega : i = 0 ∨ i = 1 ∨ i = 2 ∨ i = 3 ∨ i = 4 ∨ i = 5 ∨ i = 6 ∨ i = 7 ∨ i = 8 ∨ i = 9 ∨ i = 10 ∨ i = 11 ∨ i = 12 ∨ i = 13) with rfl | rfl | rfl | rfl | rfl | rfl | rfl | rfl | rfl | rfl | rfl | rfl | rfl | rfl
 all_goals
  conv at hoi => lhs; whnf
  obtain rfl := Option.some.inj hoi
  conv => arg 2; whnf
 ·have r5 := (sb 5 (by kernel_rfl)).trans b5
  clear sl sb hdp hoi
  obtain ⟨p0, p1, p2, p3⟩ := cells4 ((hB.block h (lt_of_block hx)).trans hx); obtain ⟨q0, q1, q2, q3⟩ := cells4 ((hB.block g5 (lt_of_block hx5)).trans hx5); have q6 := cell_1 ((hB.block gq (lt_of_block hxq)).trans hxq)
  go_simp
  exact hK _ _ ⟨hB, fun _ => rfl, v1, v2, v3, v5, v6, v7, v8, f4, f9, f10, f11, fd, f12, f13⟩
 ·have r1 := (sb 1 (by kernel_rfl)).trans b1
  clear sl sb hdp hoi
  obtain ⟨p0, p1, p2, p3⟩ := cells4 ((hB.block h (lt_of_block hx)).trans hx); obtain ⟨q0, q1, q2, q3⟩ := cells4 ((hB.block g5 (lt_of_block hx5)).trans hx5); have q6 := cell_1 ((hB.block gq (lt_of_block hxq)).trans hxq)
  go_simp
  exact hK _ _ ⟨hB, v0, fun _ => rfl, v2, v3, v5, v6, v7, v8, f4, f9, f10, f11, fd, f12, f13⟩
 ·have d1 := hdp 1 (by kernel_rfl)
  have r46 := sl 1 46 (by kernel_rfl) d1
  rw [(v1 d1)] at r46
  clear sl sb hdp hoi
  obtain ⟨p0, p1, p2, p3⟩ := cells4 ((hB.block h (lt_of_block hx)).trans hx); obtain ⟨q0, q1, q2, q3⟩ := cells4 ((hB.block g5 (lt_of_block hx5)).trans hx5); have q6 := cell_1 ((hB.block gq (lt_of_block hxq)).trans hxq)
  go_simp
  exact hK _ _ ⟨hB, v0, v1, fun _ => rfl, v3, v5, v6, v7, v8, f4, f9, f10, f11, fd, f12, f13⟩
 ·have r8 := (sb 8 (by kernel_rfl)).trans b8
  clear sl sb hdp hoi
  obtain ⟨p0, p1, p2, p3⟩ := cells4 ((hB.block h (lt_of_block hx)).trans hx); obtain ⟨q0, q1, q2, q3⟩ := cells4 ((hB.block g5 (lt_of_block hx5)).trans hx5); have q6 := cell_1 ((hB.block gq (lt_of_block hxq)).trans hxq)
  go_simp
  exact hK _ _ ⟨hB, v0, v1, v2, fun _ => rfl, v5, v6, v7, v8, f4, f9, f10, f11, fd, f12, f13⟩
 ·have d0 := hdp 0 (by kernel_rfl)
  have d2 := hdp 2 (by kernel_rfl)
  have d3 := hdp 3 (by kernel_rfl)
  have r45 := sl 0 45 (by kernel_rfl) d0
  rw [(v0 d0)] at r45
  have r47 := sl 2 47 (by kernel_rfl) d2
  rw [(v2 d2)] at r47
  have r48 := sl 3 48 (by kernel_rfl) d3
  rw [(v3 d3)] at r48
  clear sl sb hdp hoi
  go_wp2_with fail
  refine (cF w hB).mono ?_; rintro e W1 ⟨⟨v, rfl, o⟩, hE⟩
  obtain ⟨A, cc, ev⟩ := own_form o
  rw [hl1] at ev
  have oB := OwnI.base o hB.size
  exact hK _ _ ⟨Below.then_ hB hE, v0, v1, v2, v3, v5, v6, v7, v8, fun _ => ⟨⟨_, _, ev⟩, oB⟩, fun q => ⟨(f9 q).1, (f9 q).2.below hE⟩, fun q => by obtain ⟨g', e', h1, h2, h3, h4⟩ := f10 q; exact ⟨g', e', h1, Nat.lt_of_lt_of_le h2 hE.size, fun z => heap_keep (h3 z) hE, fun z => absurd (f12 z).2 (by rw [hdi]; decide)⟩, fun q => by obtain ⟨g', e', h1, h2, h3, h4⟩ := f11 q; exact ⟨g', e', h1, Nat.lt_of_lt_of_le h2 hE.size, fun z => heap_keep (h3 z) hE, fun z => heap_keep (h4 z) hE⟩, fd, fun z => absurd (f12 z).2 (by rw [hdi]; decide), f13⟩
 ·have r5 := (sb 5 (by kernel_rfl)).trans b5
  clear sl sb hdp hoi
  obtain ⟨p0, p1, p2, p3⟩ := cells4 ((hB.block h (lt_of_block hx)).trans hx); obtain ⟨q0, q1, q2, q3⟩ := cells4 ((hB.block g5 (lt_of_block hx5)).trans hx5); have q6 := cell_1 ((hB.block gq (lt_of_block hxq)).trans hxq)
  go_simp
  exact hK _ _ ⟨hB, v0, v1, v2, v3, fun _ => rfl, v6, v7, v8, f4, f9, f10, f11, fd, f12, f13⟩
 ·have r1 := (sb 1 (by kernel_rfl)).trans b1
  clear sl sb hdp hoi
  obtain ⟨p0, p1, p2, p3⟩ := cells4 ((hB.block h (lt_of_block hx)).trans hx); obtain ⟨q0, q1, q2, q3⟩ := cells4 ((hB.block g5 (lt_of_block hx5)).trans hx5); have q6 := cell_1 ((hB.block gq (lt_of_block hxq)).trans hxq)
  go_simp
  exact hK _ _ ⟨hB, v0, v1, v2, v3, v5, fun _ => rfl, v7, v8, f4, f9, f10, f11, fd, f12, f13⟩
 ·have d6 := hdp 6 (by kernel_rfl)
  have r51 := sl 6 51 (by kernel_rfl) d6
  rw [(v6 d6)] at r51
  clear sl sb hdp hoi
  obtain ⟨p0, p1, p2, p3⟩ := cells4 ((hB.block h (lt_of_block hx)).trans hx); obtain ⟨q0, q1, q2, q3⟩ := cells4 ((hB.block g5 (lt_of_block hx5)).trans hx5); have q6 := cell_1 ((hB.block gq (lt_of_block hxq)).trans hxq)
  go_simp
  exact hK _ _ ⟨hB, v0, v1, v2, v3, v5, v6, fun _ => rfl, v8, f4, f9, f10, f11, fd, f12, f13⟩
 ·have r8 := (sb 8 (by kernel_rfl)).trans b8
  clear sl sb hdp hoi
  obtain ⟨p0, p1, p2, p3⟩ := cells4 ((hB.block h (lt_of_block hx)).trans hx); obtain ⟨q0, q1, q2, q3⟩ := cells4 ((hB.block g5 (lt_of_block hx5)).trans hx5); have q6 := cell_1 ((hB.block gq (lt_of_block hxq)).trans hxq)
  go_simp
  exact hK _ _ ⟨hB, v0, v1, v2, v3, v5, v6, v7, fun _ => rfl, f4, f9, f10, f11, fd, f12, f13⟩
 ·have d4 := hdp 4 (by kernel_rfl)
  have d5 := hdp 5 (by kernel_rfl)
  have d7 := hdp 7 (by kernel_rfl)
  have d8 := hdp 8 (by kernel_rfl)
  have r50 := sl 5 50 (by kernel_rfl) d5
  rw [(v5 d5)] at r50
  have r52 := sl 7 52 (by kernel_rfl) d7
  rw [(v7 d7)] at r52
  have r53 := sl 8 53 (by kernel_rfl) d8
  rw [(v8 d8)] at r53
  clear sl sb hdp hoi
  go_wp2_with fail
  refine (cB w hB).mono ?_; rintro e W1 ⟨⟨v, rfl, o⟩, hE⟩
  obtain ⟨A, cc, ev⟩ := own_form o
  rw [hl2] at ev
  have oB := OwnI.base o hB.size
  exact hK _ _ ⟨Below.then_ hB hE, v0, v1, v2, v3, v5, v6, v7, v8, fun q => ⟨(f4 q).1, (f4 q).2.below hE⟩, fun _ => ⟨⟨_, _, ev⟩, oB⟩, fun q => by obtain ⟨g', e', h1, h2, h3, h4⟩ := f10 q; exact ⟨g', e', h1, Nat.lt_of_lt_of_le h2 hE.size, fun z => heap_keep (h3 z) hE, fun z => heap_keep (h4 z) hE⟩, fun q => by obtain ⟨g', e', h1, h2, h3, h4⟩ := f11 q; exact ⟨g', e', h1, Nat.lt_of_lt_of_le h2 hE.size, fun z => heap_keep (h3 z) hE, fun z => absurd (f13 z).2 (by rw [hdi]; decide)⟩, fd, f12, fun z => absurd (f13 z).2 (by rw [hdi]; decide)⟩
 ·clear sl sb hdp hoi
  have hE : Below w.heap.size w (w.alloc (.cells #[.slice none 0 0] 22)) := (Below.refl _ _).alloc (Nat.le_refl _) _
  go_simp
  exact hK _ _ ⟨Below.then_ hB hE, v0, v1, v2, v3, v5, v6, v7, v8, fun q => ⟨(f4 q).1, (f4 q).2.below hE⟩, fun q => ⟨(f9 q).1, (f9 q).2.below hE⟩, fun _ => ⟨_, rfl, hB.size, by simp, fun _ => heap_alloc_new _ _, fun z => absurd (f12 z).1 (by rw [hdi]; decide)⟩, fun q => by obtain ⟨g', e', h1, h2, h3, h4⟩ := f11 q; exact ⟨g', e', h1, Nat.lt_of_lt_of_le h2 hE.size, fun z => heap_keep (h3 z) hE, fun z => heap_keep (h4 z) hE⟩, fun _ q e => by obtain ⟨g', e', h1, h2, -⟩ := f11 q; rw [show updV V 10 _ 11 = V 11 from rfl, e'] at e; cases e; exact Nat.lt_irrefl _ h2, fun z => absurd (f12 z).1 (by rw [hdi]; decide), f13⟩
 ·clear sl sb hdp hoi
  have hE : Below w.heap.size w (w.alloc (.cells #[.slice none 0 0] 22)) := (Below.refl _ _).alloc (Nat.le_refl _) _
  go_simp
  exact hK _ _ ⟨Below.then_ hB hE, v0, v1, v2, v3, v5, v6, v7, v8, fun q => ⟨(f4 q).1, (f4 q).2.below hE⟩, fun q => ⟨(f9 q).1, (f9 q).2.below hE⟩, fun q => by obtain ⟨g', e', h1, h2, h3, h4⟩ := f10 q; exact ⟨g', e', h1, Nat.lt_of_lt_of_le h2 hE.size, fun z => heap_keep (h3 z) hE, fun z => heap_keep (h4 z) hE⟩, fun _ => ⟨_, rfl, hB.size, by simp, fun _ => heap_alloc_new _ _, fun z => absurd (f13 z).1 (by rw [hdi]; decide)⟩, fun q _ e => by obtain ⟨g', e', h1, h2, -⟩ := f10 q; rw [show updV V 11 _ 10 = V 10 from rfl, e'] at e; cases e; exact Nat.lt_irrefl _ h2, f12, fun z => absurd (f13 z).1 (by rw [hdi]; decide)⟩
 ·have d0 := hdp 0 (by kernel_rfl)
  have d1 := hdp 1 (by kernel_rfl)
  have d2 := hdp 2 (by kernel_rfl)
  have d3 := hdp 3 (by kernel_rfl)
  have d4 := hdp 4 (by kernel_rfl)
  have d9 := hdp 9 (by kernel_rfl)
  have d10 := hdp 10 (by kernel_rfl)
  have d11 := hdp 11 (by kernel_rfl)
  have r9 := sl 10 9 (by kernel_rfl) d10
  have r49 := sl 4 49 (by kernel_rfl) d4
  clear sl sb hdp hoi
  obtain ⟨g, ej, g1, g2, g3, -⟩ := f10 d10
  replace g3 := g3 hdi
  obtain ⟨⟨A, c, ev⟩, o⟩ := f4 d4
  rw [ej] at r9
  rw [ev] at r49
  have p0 := cell_1 g3
  have q0 := froz g3 0
  go_simp
  exact hK undef _ ⟨hB.setCell (p := ⟨g, 0, none⟩) g1 _, v0, v1, v2, v3, v5, v6, v7, v8, fun q => ⟨(f4 q).1, setT_own g3 (f4 q).2 (by decide)⟩, fun q => ⟨(f9 q).1, setT_own g3 (f9 q).2 (by decide)⟩, fun _ => ⟨g, ej, g1, by simpa using g2, fun z => noB z, fun _ => by show _ = some (Obj.cells #[V 4] _ _); rw [ev]; exact heap_set1 (k := 0) (.slice A n c) g3⟩, fun q => by obtain ⟨g', e', h1, h2, h3, h4⟩ := f11 q; have hne : g' ≠ g := fun e => fd d10 q (by rw [ej, e', e]); exact ⟨g', e', h1, by simpa using h2, fun z => (Frame.setCell (F := fun q => q = g) w g 0 _ rfl).heap (h3 z) hne, fun z => (Frame.setCell (F := fun q => q = g) w g 0 _ rfl).heap (h4 z) hne⟩, fd, fun _ => ⟨d10, d4⟩, f13⟩
 ·have d0 := hdp 0 (by kernel_rfl)
  have d1 := hdp 1 (by kernel_rfl)
  have d2 := hdp 2 (by kernel_rfl)
  have d3 := hdp 3 (by kernel_rfl)
  have d4 := hdp 4 (by kernel_rfl)
  have d5 := hdp 5 (by kernel_rfl)
  have d6 := hdp 6 (by kernel_rfl)
  have d7 := hdp 7 (by kernel_rfl)
  have d8 := hdp 8 (by kernel_rfl)
  have d9 := hdp 9 (by kernel_rfl)
  have d10 := hdp 10 (by kernel_rfl)
  have d11 := hdp 11 (by kernel_rfl)
  have d12 := hdp 12 (by kernel_rfl)
  have r10 := sl 11 10 (by kernel_rfl) d11
  have r54 := sl 9 54 (by kernel_rfl) d9
  clear sl sb hdp hoi
  obtain ⟨g, ej, g1, g2, g3, -⟩ := f11 d11
  replace g3 := g3 hdi
  obtain ⟨⟨A, c, ev⟩, o⟩ := f9 d9
  rw [ej] at r10
  rw [ev] at r54
  have p0 := cell_1 g3
  have q0 := froz g3 0
  go_simp
  exact hK undef _ ⟨hB.setCell (p := ⟨g, 0, none⟩) g1 _, v0, v1, v2, v3, v5, v6, v7, v8, fun q => ⟨(f4 q).1, setT_own g3 (f4 q).2 (by decide)⟩, fun q => ⟨(f9 q).1, setT_own g3 (f9 q).2 (by decide)⟩, fun q => by obtain ⟨g', e', h1, h2, h3, h4⟩ := f10 q; have hne : g' ≠ g := fun e => fd q d11 (by rw [ej, e', e]); exact ⟨g', e', h1, by simpa using h2, fun z => (Frame.setCell (F := fun q => q = g) w g 0 _ rfl).heap (h3 z) hne, fun z => (Frame.setCell (F := fun q => q = g) w g 0 _ rfl).heap (h4 z) hne⟩, fun _ => ⟨g, ej, g1, by simpa using g2, fun z => noB z, fun _ => by show _ = some (Obj.cells #[V 9] _ _); rw [ev]; exact heap_set1 (k := 0) (.slice A n c) g3⟩, fd, f12, fun _ => ⟨d11, d9⟩⟩
theorem sti11 {z0 z2 z3 z4 z6 z7 z9 z10 z11 z12 z13 z14 z15 z16 z17 z18 z19 z20 z21 z22 z23 z24 z25 z26 z27 z28 z29 z30 z31 z32 z33 z34 z35 z36 z37 z38 z39 z40 z41 z42 z43 z44 z45 z46 z47 z48 z49 z50 z51 z52 z53 z54 z55 z56 z57 z58 z59 z60 z61 z62 z63 z64 z65 z66 z67 z68 : Value} {ds : List Deferred} (X : World) (h k n x g5 gq : Nat) (a : Aut) (As Ae At : Option Addr) (cs ce ct : Nat) (K0 : Act → World → Prop) (hP : Hid (sti11_P X h k n x g5 gq a As Ae At cs ce ct)) (hQ : Hid (∀ (V : Nat → Value) (W : World), sti11_F X h k n x a As Ae At cs ce ct (fun _ => true) V W → K0 ⟨#[z0, (.pointer (some ⟨h, 0, none⟩)), z2, z3, z4, (.pointer (some ⟨g5, 0, none⟩)), z6, z7, (.pointer (some ⟨gq, 0, none⟩)), V 10, V 11, z11, z12, z13, z14, z15, z16, z17, z18, z19, z20, z21, z22, z23, z24, z25, z26, z27, z28, z29, z30, z31, z32, z33, z34, z35, z36, z37, z38, z39, z40, z41, z42, z43, z44, V 0, V 1, V 2, V 3, V 4, V 5, V 6, V 7, V 8, V 9, z55, z56, z57, z58, z59, z60, z61, z62, z63, z64, z65, z66, z67, z68], ds⟩ W)) (w : World) (hB : Hid (Below X.heap.size X w)) : Code.wp Tryd.prog (Code.region 11 sti11_o true) (Exit.then K0 (fun _ _ _ => False)) ⟨#[z0, (.pointer (some ⟨h, 0, none⟩)), z2, z3, z4, (.pointer (some ⟨g5, 0, none⟩)), z6, z7, (.pointer (some ⟨gq, 0, none⟩)), z9, z10, z11, z12, z13, z14, z15, z16, z17, z18, z19, z20, z21, z22, z23, z24, z25, z26, z27, z28, z29, z30, z31, z32, z33, z34, z35, z36, z37, z38, z39, z40, z41, z42, z43, z44, z45, z46, z47, z48, z49, z50, z51, z52, z53, z54, z55, z56, z57, z58, z59, z60, z61, z62, z63, z64, z65, z66, z67, z68], ds⟩ w := by
 have hs : sti11_o.size = 14 := by kernel_rfl
 refine region_inv (sti11_F X h k n x a As Ae At cs ce ct) (by kernel_rfl) sti11_k ?_ ?_ (by kernel_rfl) ?_
 ·rw [hs]
  exact ⟨hB.out.drew, fun q => absurd q (by decide), fun q => absurd q (by decide), fun q => absurd q (by decide), fun q => absurd q (by decide), fun q => absurd q (by decide), fun q => absurd q (by decide), fun q => absurd q (by decide), fun q => absurd q (by decide), fun q => absurd q (by decide), fun q => absurd q (by decide), fun q => absurd q (by decide), fun q => absurd q (by decide), fun q => absurd q (by decide), fun q => absurd q (by decide), fun q => absurd q (by decide)⟩
 ·exact sti11_s hP.out rfl rfl rfl
 ·intro V W hF
  exact (congrArg (fun x => K0 x W) (by kernel_rfl)).mpr (hQ.out V W hF)
end Go.Proofs.YtlpldfocljnpnaaDoor
namespace Go.Proofs.YtlpldfocljnpnaaDoor
open Go.RowKit Go.Shelf
noncomputable def starP (a : Aut) : Aut × Int := guardA a (if dotL a.start a.end_ = 0 then toldA (starA a) else (aut0, 7))
theorem starA_eq {a : Aut} {k n : Nat} (ok : okA a k n) : starA a = ⟨(k : Nat), List.replicate n 0 ++ [1], List.replicate n 0 ++ [1], msP (starE a n) (n + 1) k⟩ := by
 unfold starA mkA msP
 rw [ok.steps, ok.start.1]
theorem StarA_ok {a : Aut} {k n : Nat} (ok : okA a k n) (hn : n ≤ 12) (h0 : checkA a = 0) (s e t : Value) (w : World) (ra : RdA w s e t a) :
  Calls Tryd.prog 37 #[.agg #[.int .i64 (k : Nat), s, e, t]] w (ResA (if dotL a.start a.end_ = 0 then toldA (starA a) else (aut0, 7)) w) := by
 obtain ⟨R, hRR⟩ : ∃ R, (if dotL a.start a.end_ = 0 then toldA (starA a) else (aut0, 7)) = R := ⟨_, rfl⟩
 rw [hRR]
 replace hRR := Lib.hid hRR
 have hck := Lib.hid (fun W (hW : Below w.heap.size w W) => CheckA_any a s e t W (ra.below hW (Nat.le_refl _)))
 have hdt := Lib.hid (fun W (hW : Below w.heap.size w W) => (dot_any a.start a.end_ s e W (ra.start.below hW (Nat.le_refl _)) (ra.end_.below hW (Nat.le_refl _)) (by rw [ok.start.1, ok.end_.1]; exact Nat.le_refl _) (by rw [ok.start.1]; omega) ok.start.2 ok.end_.2).mono (R' := fun e w' => e = .returned (.int .i64 (dotL a.start a.end_)) ∧ Below W.heap.size W w') (fun e w' ⟨h1, h2⟩ => ⟨h1, h2 ▸ Below.refl _ _⟩))
 have cF := Lib.hid (fun x (hx : x < k) W (hW : Below w.heap.size w W) => forth_any ok (by omega) a.start x hx ok.start.1 ok.start.2 s e t s W (ra.below hW (Nat.le_refl _)) (ra.start.below hW (Nat.le_refl _)))
 have cB := Lib.hid (fun x (hx : x < k) W (hW : Below w.heap.size w W) => back_any ok (by omega) a.end_ x hx ok.end_.1 ok.end_.2 s e t e W (ra.below hW (Nat.le_refl _)) (ra.end_.below hW (Nat.le_refl _)))
 obtain ⟨As, cs, e1, -, -⟩ := ra.start.cell_
 obtain ⟨Ae, ce, e2, -, -⟩ := ra.end_.cell_
 obtain ⟨At, ct, e3, -, -⟩ := RdS.open_ ([] : List (List Int)) ra.steps
 rw [ok.start.1] at e1
 rw [ok.end_.1] at e2
 rw [ok.steps] at e3
 subst e1 e2 e3
 rw [h0, ok.letters] at hck
 rw [ok.letters] at cF cB
 have hk := ok.pos
 have hok := Lib.hid ok
 have hra := Lib.hid ra
 have hbeg : Hid (∀ x, alongL n a.start (a.steps.getD x []) = begX a x) := Lib.hid (fun x => by unfold begX; rw [hok.out.start.1])
 obtain ⟨iT, hiT, jT0, jT1, jT2⟩ := info_parts infoRR2
 obtain ⟨x0, x1, hz, hB⟩ := two0 w (.cells #[.int .i64 (k : Nat), .slice As n cs, .slice Ae n ce, .slice At k ct] 25) (.cells #[.int .i64 0, .slice none 0 0, .slice none 0 0, .slice none 0 0] 25)
 clear ra ok h0
 go_enter Tryd.func37, Tryd.ntmps37
 go_wp2_with fail
 generalize ((w.alloc (.cells #[.int .i64 (k : Nat), .slice As n cs, .slice Ae n ce, .slice At k ct] 25)).alloc (.cells #[.int .i64 0, .slice none 0 0, .slice none 0 0, .slice none 0 0] 25)) = X0 at *
 refine (hck.out X0 hB).mono ?_; rintro ev W1 ⟨rfl, hb⟩
 have hB1 := Below.then_ hB hb
 replace x0 := (hb.block w.heap.size (by omega)).trans x0
 replace x1 := (hb.block (w.heap.size + 1) (by omega)).trans x1
 obtain ⟨q0, q1, q2, q3⟩ := cells4 x0
 have hd1 := Lib.hid (hdt.out W1 hB1)
 clear hck hdt hb hB
 go_wp2_with fail
 refine hd1.out.mono ?_; rintro ev W2 ⟨rfl, hb⟩
 have hB2 := Lib.hid (Below.then_ hB1 hb)
 replace x0 := heap_keep x0 hb
 replace x1 := heap_keep x1 hb
 have hlx := lt_of_block x1
 clear hb hB1 hd1 q0 q1 q2 q3
 by_cases hz0 : dotL a.start a.end_ = 0
 ·have hr : Hid (R = toldA (starA a)) := Lib.hid (hRR.out.symm.trans (if_pos hz0))
  clear hRR
  rw [hz0]
  replace hz0 := Lib.hid hz0
  replace x0 := Lib.hid x0
  replace x1 := Lib.hid x1
  go_upto_region 6 with fail
  refine Code.wp_mono (Q := Exit.then _ (fun _ _ _ => False)) (no_exit _ _) ?_
  refine sti6 W2 w.heap.size k n As Ae At cs ce ct _ (Lib.hid x0.out) (Lib.hid ?_) W2 (Lib.hid (Below.refl _ _))
  intro U V ⟨hBV, _, _, _, _, _, f5, f6, _⟩
  obtain ⟨g5, e5, b5, -, -, x5⟩ := f5 rfl
  obtain ⟨g6, e6, b6, -, -, x6⟩ := f6 rfl
  rw [e5, e6]
  replace hBV := Lib.hid hBV
  replace b5 := Lib.hid b5
  replace b6 := Lib.hid b6
  replace x5 := Lib.hid (x5 rfl)
  replace x6 := Lib.hid (x6 rfl)
  clear f5 f6 e5 e6
  rename (∀ (a : Act) (w : World), Code.wp _ _ _ a w → _) => hK2
  refine hK2 _ _ ?_
  clear hK2
  conv => arg 4; dsimp only
  have x0V := Lib.hid (heap_keep x0.out hBV.out)
  have x1V := Lib.hid (heap_keep x1.out hBV.out)
  have hzV := hBV.out.size
  have hBwV := Lib.hid (Below.then_ hB2.out hBV.out)
  go_upto_region 7 with fail
  refine Code.wp_mono (Q := Exit.then _ (fun _ _ _ => False)) (no_exit _ _) ?_
  refine sti7 V w.heap.size k n g6 As Ae At cs ce ct _ (Lib.hid ⟨x0V.out, x6.out, by omega⟩) (Lib.hid ?_) V (Lib.hid (Below.refl _ _))
  intro U2 V2 ⟨hB7, _, _, _, _, _, _, _, _, _, f5, f9, _, _, _, f11, _⟩
  obtain ⟨⟨A5, c5, e5⟩, o5⟩ := f5 rfl
  obtain ⟨-, ⟨A9, c9, e9⟩, o9⟩ := f9 rfl
  obtain ⟨g11, e11, b11, -, -, x11⟩ := f11 rfl
  rw [e11]
  rw [e5] at o5
  rw [e9] at o9
  replace x11 := x11 rfl
  rw [e5, e9] at x11
  replace hB7 := Lib.hid hB7
  replace o5 := Lib.hid o5
  replace o9 := Lib.hid o9
  replace b11 := Lib.hid b11
  replace x11 := Lib.hid x11
  clear f5 f9 f11 e5 e9 e11
  rename (∀ (a : Act) (w : World), Code.wp _ _ _ a w → _) => hK2
  refine hK2 _ _ ?_
  clear hK2
  conv => arg 4; dsimp only
  have cV := Lib.hid (fun W (hW : Below V.heap.size V W) => (⟨(hW.block _ (lt_of_block x0V.out)).trans x0V.out, (hW.block _ (lt_of_block x1V.out)).trans x1V.out, (hW.block _ (lt_of_block x5.out)).trans x5.out, (hW.block _ (lt_of_block x6.out)).trans x6.out⟩ : _ ∧ _ ∧ _ ∧ _))
  have hwV := Lib.hid (fun W (hW : Below V.heap.size V W) => hBwV.out.trans (hW.mono hBwV.out.size))
  have hz7 := hB7.out.size
  have hS0 : Hid (∃ t us lo, WgtS V V.heap.size g11 (k : Nat) (.slice A5 (n + 1) c5) (.slice A9 (n + 1) c9) t us lo (List.replicate n 0 ++ [1]) (List.replicate n 0 ++ [1]) (msP (starE a n) (n + 1) 0) V2) :=
   Lib.hid ⟨_, [], fun _ => V2.heap.size, ⟨hB7.out, Nat.le_refl _, x11.out, b11.out, .inr ⟨_, Nat.le_refl _, o5.out⟩, .inr ⟨_, Nat.le_refl _, o9.out⟩, OwnQ.nil V2 hz7 (Nat.le_refl _)⟩⟩
  obtain ⟨u0, -, -, -⟩ := cV.out V2 hB7.out
  obtain ⟨q0, q1, q2, q3⟩ := cells4 u0
  clear u0 o5 o9 x11
  obtain ⟨N, hN⟩ : ∃ N, n + 1 = N := ⟨_, rfl⟩
  have eN : (n : Int) + 1 = (N : Int) := by omega
  have eW : IntKind.i64.wrap ((n : Int) + 1) = (N : Int) := by rw [IntKind.wrap_i64]; omega
  rw [hN] at hS0
  have hN8 : N ≤ 13 := by omega
  replace hN := Lib.hid hN
  go_wp2
  go_loopw [42] (fun i wr => ∃ q : Nat, q ≤ k ∧ i = .int .i64 q ∧ Hid (∃ t us lo, WgtS V V.heap.size g11 (k : Nat) (.slice A5 N c5) (.slice A9 N c9) t us lo (List.replicate n 0 ++ [1]) (List.replicate n 0 ++ [1]) (msP (starE a n) N q) wr)) (fun i _ => k - (intOf i).toNat)
  case atStart => exact ⟨0, Nat.zero_le _, rfl, hS0⟩
  case round =>
   obtain ⟨q, hq, rfl, hR⟩ := hrel
   obtain ⟨t, us, lo, hS⟩ := hR.out
   by_cases hlt : q < k
   ·obtain ⟨A0, c0, e0⟩ := own_form hS.mats.outer
    rw [msP_len] at e0
    subst e0
    have hX5 : Below wr.heap.size wr (wr.alloc (.cells #[.int .i64 (q : Nat)] 3)) := (Below.refl _ _).alloc (Nat.le_refl _) _
    have hS5 := Lib.hid (hS.kept hX5)
    have xq := Lib.hid (heap_alloc_new wr (.cells #[.int .i64 (q : Nat)] 3))
    have y1 : (q : Int) < (k : Int) := by omega
    have y0 : (0 : Int) ≤ (q : Int) := by omega
    clear hS hR hX5
    go_upto_region 11 with fail
    generalize wr.alloc (.cells #[.int .i64 (q : Nat)] 3) = X5 at *
    generalize wr.heap.size = bq at *
    obtain ⟨c1, -, c3, -⟩ := cV.out X5 hS5.out.low
    have hlb : (begX a q).length = n ∧ (endX a q).length = n := ⟨(alongL_len _ _ _).trans hok.out.start.1, (backL_len _ _).trans (hok.out.row_ok hlt).1⟩
    have hz5 := hS5.out.low.size
    have cF5 := Lib.hid (fun W (hW : Below X5.heap.size X5 W) => by
     have := cF.out q hlt W (hwV.out W (hS5.out.low.trans (hW.mono hz5)))
     rw [hbeg.out q] at this
     exact this)
    have cB5 := Lib.hid (fun W (hW : Below X5.heap.size X5 W) => cB.out q hlt W (hwV.out W (hS5.out.low.trans (hW.mono hz5))))
    refine Code.wp_mono (Q := Exit.then _ (fun _ _ _ => False)) (no_exit _ _) ?_
    refine sti11 X5 w.heap.size k n q g5 bq a As Ae At cs ce ct _ (Lib.hid ⟨c1, c3, xq.out, cF5.out, cB5.out, hlb⟩) (Lib.hid ?_) X5 (Lib.hid (Below.refl _ _))
    intro U3 W6 ⟨hB6, _, _, _, _, _, _, _, _, f4, f9, f10, f11, _⟩
    obtain ⟨⟨A44, c44, e4⟩, o4⟩ := f4 rfl
    obtain ⟨⟨A99, c99, e9⟩, o9⟩ := f9 rfl
    obtain ⟨g10, e10, b10, -, -, x10⟩ := f10 rfl
    obtain ⟨g13, e13, b13, -, -, x13⟩ := f11 rfl
    rw [e10, e13]
    rw [e4] at o4
    rw [e9] at o9
    replace x10 := x10 rfl
    replace x13 := x13 rfl
    rw [e4] at x10
    rw [e9] at x13
    replace hB6 := Lib.hid hB6
    replace o4 := Lib.hid o4
    replace o9 := Lib.hid o9
    replace b10 := Lib.hid b10
    replace b13 := Lib.hid b13
    replace x10 := Lib.hid x10
    replace x13 := Lib.hid x13
    clear f4 f9 f10 f11 e4 e9 e10 e13
    rename (∀ (a : Act) (w : World), Code.wp _ _ _ a w → _) => hK2
    refine hK2 _ _ ?_
    clear hK2
    conv => arg 4; dsimp only
    have hS := Lib.hid (hS5.out.kept hB6.out)
    have xq6 := Lib.hid (heap_keep xq.out hB6.out)
    clear hS5 cF5 cB5 c1 c3
    have hmx := Lib.hid (fun W1 (hW : Below W6.heap.size W6 W1) => mtx_any (starE a n q) N 92 #[.pointer (some ⟨g6, 0, none⟩), .pointer (some ⟨g10, 0, none⟩), .pointer (some ⟨w.heap.size, 0, none⟩), .pointer (some ⟨g13, 0, none⟩), .pointer (some ⟨bq, 0, none⟩)] (enters_of Tryd.func92 (by kernel_rfl) rfl) W1 (by omega) (fun W2 i j hB2 hi hj => by
     have h62 : Below W6.heap.size W6 W2 := hW.trans (hB2.mono hW.size)
     have hl2 : Below V.heap.size V W2 := hS.out.low.trans (h62.mono hS.out.low.size)
     obtain ⟨u0, -, -, u3⟩ := cV.out W2 hl2
     exact Star_1 hok.out (by omega) As Ae At cs ce ct g6 g10 w.heap.size g13 bq q i j hlt (by rw [hN.out]; exact hi) (by rw [hN.out]; exact hj) W2 (hra.out.below (hwV.out W2 hl2) (Nat.le_refl _)) (k : Nat) A44 A99 c44 c99 ((o4.out.rd (by rw [hlb.1]; omega)).below h62 (Nat.le_refl _)) ((o9.out.rd (by rw [hlb.2]; omega)).below h62 (Nat.le_refl _)) u0 (cell_1 u3) (cell_1 (heap_keep x10.out h62)) (cell_1 (heap_keep x13.out h62)) (cell_1 (heap_keep xq6.out h62))))
    have hb6 : Hid (Below W6.heap.size W6 W6) := Lib.hid (Below.refl _ _)
    have hot := Lib.hid (show W6.ownsRow V.heap.size 59 1 (.slice A0 q c0) q us from by have := hS.out.mats.outer; rwa [msP_len] at this)
    go_upto_region 12 with fail
    refine Code.wp_mono (Q := Exit.inBlock 1 (Exit.then _ (fun _ _ _ => False))) (no_exit_in 1 _ _) ?_
    refine D_begin (fun W => Below V.heap.size V W) (fun W => W.heap[g11]? = some (.cells #[.int .i64 (k : Nat), .slice A5 N c5, .slice A9 N c9, .slice A0 q c0] 25 (0, 0))) 9 (by kernel_rfl) ?_
    change wpAnyD _ _ _ _ _ _ _ _ _ _ W6.drew
    simp only [List.size_toArray, List.length_cons, List.length_nil, Nat.reduceAdd, Array.replicate_succ, Array.replicate_zero, List.push_toArray, List.append_toArray, List.nil_append, List.cons_append]
    have hD11 : Below W6.heap.size W6 W6.drew := (Below.refl _ _).drew
    replace hS := Lib.hid (hS.out.kept hD11)
    replace hb6 := Lib.hid (Below.then_ hb6.out hD11)
    replace hot := Lib.hid (own_below hot.out hD11)
    have z_D11 := hD11.size; clear hD11
    generalize W6.drew = D11 at *
    refine Dt 0 rfl ?_ (by first | exact hlow9.out | exact hlow8.out | exact hS.out.low) (fun _ => (by first | exact hbx8.out | exact hS.out.box)) ?_ ?_
    rotate_left; · intro w1 hw1; obtain ⟨u0, -, -, u3⟩ := cV.out w1 hw1; have q9 := cell_1 u3; go_simp; try with_reducible rfl
    try simp only [Act.put, s_1, s_2, s_3, s_4, s_5, s_6]
    refine Dt 2 rfl ?_ (by first | exact hlow9.out | exact hlow8.out | exact hS.out.low) (fun _ => (by first | exact hbx8.out | exact hS.out.box)) ?_ ?_
    rotate_left; · intro w1 hw1; obtain ⟨u0, -, -, u3⟩ := cV.out w1 hw1; have q9 := cell_1 u3; go_simp; try with_reducible rfl
    try simp only [Act.put, s_1, s_2, s_3, s_4, s_5, s_6]
    refine Dt 4 rfl ?_ (by first | exact hlow9.out | exact hlow8.out | exact hS.out.low) (fun _ => (by first | exact hbx8.out | exact hS.out.box)) ?_ ?_
    rotate_left; · intro w1 hw1; obtain ⟨u0, -, -, u3⟩ := cV.out w1 hw1; have q9 := cell_1 u3; go_simp; try with_reducible rfl
    try simp only [Act.put, s_1, s_2, s_3, s_4, s_5, s_6]
    refine D_load (i := 1) (v := ?_) rfl (by kernel_rfl) (by kernel_rfl) (by kernel_rfl) (by kernel_rfl) (by kernel_rfl) rfl (fun _ _ _ h => h) (Or.inl ⟨by rfl, ?_⟩) (by first | exact hlow9.out | exact hlow8.out | exact hS.out.low) (by first | exact hbx8.out | exact hS.out.box) ?_
    rotate_left; · intro w1 hw1; obtain ⟨t1, t2, t3, t4⟩ := cells4 hw1.2; go_simp; try with_reducible rfl
    try simp only [Act.put, s_1, s_2, s_3, s_4, s_5, s_6]
    refine Dt 3 rfl ?_ (by first | exact hlow9.out | exact hlow8.out | exact hS.out.low) (fun _ => (by first | exact hbx8.out | exact hS.out.box)) ?_ ?_
    rotate_left; · intro w1 hw1; obtain ⟨u0, -, -, u3⟩ := cV.out w1 hw1; have q9 := cell_1 u3; go_simp; try with_reducible rfl
    try simp only [Act.put, s_1, s_2, s_3, s_4, s_5, s_6]
    refine D_one (i := 5) (by kernel_rfl) rfl ?_
    intro K hK
    rw [if_pos (by rfl)]
    have htop := hS.out.mats.top
    obtain ⟨B8, hB8⟩ : ∃ B8, D11.heap.size = B8 := ⟨_, rfl⟩
    go_wp2_with fail
    refine (hmx.out D11 hb6.out).mono ?_; rintro e D11_1 ⟨⟨v8, rfl, o8⟩, hE1⟩
    replace hS := Lib.hid (hS.out.kept hE1)
    replace hb6 := Lib.hid (Below.then_ hb6.out hE1)
    replace hot := Lib.hid (own_below hot.out hE1)
    rw [hB8] at o8
    obtain ⟨A8, c8, e8⟩ := o8.form
    rw [mat_len] at e8
    subst e8
    replace o8 := Lib.hid o8
    rw [hB8, msP_len] at htop
    have z_1 := hE1.size; clear hE1
    refine hK _ _ (by first | exact hlow9.out | exact hlow8.out | exact hS.out.low) (fun _ _ => (by first | exact hbx8.out | exact hS.out.box)) ?_
    clear hK K
    try simp only [Act.put, s_1, s_2, s_3, s_4, s_5, s_6]
    refine D_one (i := 6) (by kernel_rfl) rfl ?_
    intro K hK
    rw [if_pos (by rfl)]
    go_simp
    have hE2 : Below D11_1.heap.size D11_1 (D11_1.alloc (.cells #[.slice A8 N c8] 59)) := (Below.refl _ _).alloc (Nat.le_refl _) _
    replace hS := Lib.hid (hS.out.kept hE2)
    replace hb6 := Lib.hid (Below.then_ hb6.out hE2)
    replace hot := Lib.hid (own_below hot.out hE2)
    replace o8 := Lib.hid (o8.out.below hE2)
    have n9 : Hid (∀ j u, [.slice A8 N c8][j]? = some u → (D11_1.alloc (.cells #[.slice A8 N c8] 59)).cell? ((⟨D11_1.heap.size, 0, none⟩ : Addr).add j) = some u) := Lib.hid (news_new _ _ _)
    have z_2 : D11_1.heap.size < (D11_1.alloc (.cells #[.slice A8 N c8] 59)).heap.size := by simp
    clear hE2
    refine hK _ _ (by first | exact hlow9.out | exact hlow8.out | exact hS.out.low) (fun _ _ => (by first | exact hbx8.out | exact hS.out.box)) ?_
    clear hK K
    try simp only [Act.put, s_1, s_2, s_3, s_4, s_5, s_6]
    generalize (D11_1.alloc (.cells #[.slice A8 N c8] 59)) = D11_2 at *
    refine D_one (i := 7) (by kernel_rfl) rfl ?_
    intro K hK
    refine step_app1 (by rfl) _ _ 23 (by rfl) 59 iT _ 1 24 Tryd.underlying23 hiT jT0 jT1 jT2 (by rfl) (by omega) (by omega) V.heap.size (.slice A0 q c0) q us (by rfl) hot.out ⟨_, 0, none⟩ [.slice A8 N c8] (by rfl) rfl n9.out (by simp [Value.oneCell']) (by omega) hS.out.low.size ?_
    intro A10 c10 X8 hown8 hgrow8 hat8
    obtain ⟨hbx8, ⟨lo', hS9, hlo'⟩, hF9, hlow8⟩ := hS.out.snoc (B := B8) (by rw [msP_len]; exact htop) (by omega) o8.out (by rw [msP_len]; exact hown8) hgrow8
    have hlow9 := Lib.hid hS9.low
    obtain ⟨t1, t2, t3, t4⟩ := cells4 hbx8
    have f3 := froz hbx8 3
    rw [msP_succ] at hS9
    replace hS9 := Lib.hid hS9
    replace hbx8 := Lib.hid hbx8
    replace hlow8 := Lib.hid hlow8
    clear hown8 hgrow8 hat8 hF9 n9 hlo'
    refine hK _ _ (by first | exact hlow9.out | exact hlow8.out | exact hS.out.low) (fun _ _ => (by first | exact hbx8.out | exact hS.out.box)) ?_
    clear hK K
    try simp only [Act.put, s_1, s_2, s_3, s_4, s_5, s_6]
    refine Dt 8 rfl ?_ (by first | exact hlow9.out | exact hlow8.out | exact hS.out.low) (fun _ => (by first | exact hbx8.out | exact hS.out.box)) ?_ ?_
    rotate_left; · intro w1 hw1; obtain ⟨u0, -, -, u3⟩ := cV.out w1 hw1; have q9 := cell_1 u3; go_simp; try with_reducible rfl
    try simp only [Act.put, s_1, s_2, s_3, s_4, s_5, s_6]
    refine D_one (i := 9) (by kernel_rfl) rfl ?_
    intro K hK
    rw [if_pos (by rfl)]
    go_simp
    refine hK _ _ (by first | exact hlow9.out | exact hlow8.out | exact hS.out.low) (fun h _ => absurd rfl h) ?_
    clear hK K
    try simp only [Act.put, s_1, s_2, s_3, s_4, s_5, s_6]
    refine D_done (by kernel_rfl) ?_ _
    rename (∀ (a : Act) (w : World), Code.wp _ _ _ a w → _) => hK2
    refine hK2 _ _ ?_
    clear hK2
    generalize X8.setCell ⟨g11, 3, none⟩ (.slice A10 (q + 1) c10) = X9 at *
    go_wp2
    go_roundw
    case rel => exact ⟨q + 1, by omega, by go_num, Lib.hid ⟨_, _, lo', hS9.out⟩⟩
    case measure => simp [intOf]; omega
   ·obtain rfl : q = k := by omega
    obtain ⟨A0, c0, e0⟩ := own_form hS.mats.outer
    rw [msP_len] at e0
    subst e0
    obtain ⟨q0, q1, q2, q3⟩ := cells4 hS.box
    have hrd := hS.rd (by simp; omega) (by simp; omega) (by rw [msP_len]; omega) (fun mm hmm => by
     obtain ⟨z, -, rfl⟩ := List.mem_map.1 hmm
     exact ⟨by rw [mat_len]; omega, fun r hr => by obtain ⟨i, -, rfl⟩ := List.mem_map.1 hr; simp; omega⟩)
    have haf := starA_eq hok.out
    rw [hN.out] at haf
    rw [← haf] at hrd
    have hcall := Lib.hid (result_any (star_ok hok.out) (by omega) _ _ _ wr hrd)
    have x1r := (cV.out wr hS.low).2.1
    have hBF := Lib.hid (hwV.out wr hS.low)
    clear hrd haf hS hR
    go_wp2_with fail
    refine hcall.out.mono ?_; rintro ev W3 ⟨x, rfl, hF, hb2⟩
    obtain ⟨A1, A2, A3, m1, m2, m3, c1, c2, c3, rfl⟩ := hF.form
    replace x1r := Lib.hid (heap_keep x1r hb2)
    obtain ⟨p0, p1, p2, p3⟩ := cells4 x1r.out
    obtain ⟨f0, f1, f2, f3⟩ := frozen4 x1r.out
    have hB2 := Lib.hid (Below.then_ hBF.out hb2)
    have hF2 := Lib.hid (hF.base hBF.out.size)
    generalize toldA (starA a) = p at *
    obtain ⟨bb, er⟩ := p
    simp only [] at hF2 ⊢
    clear hF hb2
    go_wp2_with fail
    refine bodyPost_ret (res_ct rfl _ _ (w.heap.size + 1) 25 #[.int .i64 bb.letters, .slice A1 m1 c1, .slice A2 m2 c2, .slice A3 m3 c3] (0, 0) _ rfl (heap_set4 _ _ _ _ x1r.out) rfl rfl rfl) rfl ?_
    rw [hr.out]
    exact resA_set (p := (bb, er)) x1r.out (by omega) hB2.out hF2.out (Nat.le_refl _)
 ·have hr : Hid (R = (aut0, 7)) := Lib.hid (hRR.out.symm.trans (if_neg hz0))
  clear hRR
  have hzb : (dotL a.start a.end_ != 0) = true := by rw [bne_iff_ne]; exact hz0
  obtain ⟨p0, p1, p2, p3⟩ := cells4 x1
  obtain ⟨f0, f1, f2, f3⟩ := frozen4 x1
  replace x0 := Lib.hid x0
  replace x1 := Lib.hid x1
  go_wp2_with fail
  refine bodyPost_ret (res_ct rfl _ _ (w.heap.size + 1) 25 #[.int .i64 0, .slice none 0 0, .slice none 0 0, .slice none 0 0] (0, 0) _ rfl (heap_set4 _ _ _ _ x1.out) rfl rfl rfl) rfl ?_
  rw [hr.out]
  exact resA_set (p := (aut0, 7)) x1.out (by omega) hB2.out (FrA.zero _ _) (Nat.le_refl _)
end Go.Proofs.YtlpldfocljnpnaaDoor
namespace Go.Proofs.YtlpldfocljnpnaaDoor
open Go.RowKit Go.Shelf
theorem StarA_any (a : Aut) (s e t : Value) (w : World) (ra : RdA w s e t a) :
  Calls Tryd.prog 37 #[.agg #[.int .i64 a.letters, s, e, t]] w (ResA (starP a) w) := by
 by_cases h0 : checkA a = 0
 ·obtain ⟨k0, ok, h12, hk0⟩ := checkA_ex h0
  have h := StarA_ok ok h12 h0 s e t w ra
  rw [← hk0] at h
  unfold starP guardA
  rw [if_pos h0]
  exact h
 obtain ⟨As, cs, rfl, -, -⟩ := ra.start.cell_
 obtain ⟨Ae, ce, rfl, -, -⟩ := ra.end_.cell_
 obtain ⟨At, ct, rfl, -, -⟩ := RdS.open_ ([] : List (List Int)) ra.steps
 have hck := Lib.hid (fun W (hW : Below w.heap.size w W) => CheckA_any a _ _ _ W (ra.below hW (Nat.le_refl _)))
 have hr : Hid (starP a = (aut0, checkA a)) := Lib.hid (if_neg h0)
 have hne : (checkA a != 0) = true := by rw [bne_iff_ne]; exact h0
 clear ra
 generalize starP a = R at *
 generalize checkA a = er at *
 generalize a.letters = L at *
 generalize a.start.length = n at *
 generalize a.end_.length = m at *
 generalize a.steps.length = k at *
 obtain ⟨x0, x1, hz, hB⟩ := two0 w (.cells #[.int .i64 L, .slice As n cs, .slice Ae m ce, .slice At k ct] 25) (.cells #[.int .i64 0, .slice none 0 0, .slice none 0 0, .slice none 0 0] 25)
 go_enter Tryd.func37, Tryd.ntmps37
 go_wp2_with fail
 generalize ((w.alloc (.cells #[.int .i64 L, .slice As n cs, .slice Ae m ce, .slice At k ct] 25)).alloc (.cells #[.int .i64 0, .slice none 0 0, .slice none 0 0, .slice none 0 0] 25)) = X at *
 refine (hck.out X hB).mono ?_; rintro e W1 ⟨rfl, hb⟩
 have hB1 := Lib.hid (Below.then_ hB hb)
 replace x0 := (hb.block w.heap.size (by omega)).trans x0
 replace x1 := (hb.block (w.heap.size + 1) (by omega)).trans x1
 have hz1 := hb.size
 obtain ⟨q0, q1, q2, q3⟩ := cells4 x0
 obtain ⟨p0, p1, p2, p3⟩ := cells4 x1
 obtain ⟨f0, f1, f2, f3⟩ := frozen4 x1
 clear hb hB
 replace x0 := Lib.hid x0
 replace x1 := Lib.hid x1
 go_wp2_with fail
 refine bodyPost_ret (res_ct rfl _ _ (w.heap.size + 1) 25 #[.int .i64 0, .slice none 0 0, .slice none 0 0, .slice none 0 0] (0, 0) _ rfl (heap_set4 _ _ _ _ x1.out) rfl rfl rfl) rfl ?_
 rw [hr.out]
 exact resA_set (p := (aut0, er)) x1.out (by omega) hB1.out (FrA.zero _ _) (Nat.le_refl _)
end Go.Proofs.YtlpldfocljnpnaaDoor
namespace Go.Proofs.YtlpldfocljnpnaaDoor
open Go.RowKit Go.Shelf
noncomputable def leftP (a : Aut) (x : Int) : Aut × Int := guardA a (if x < 0 ∨ a.letters ≤ x then (aut0, 3) else toldA (leftA a x.toNat))
theorem LeftA_any (a : Aut) (x : Int) (s e t : Value) (w : World) (ra : RdA w s e t a) :
  Calls Tryd.prog 43 #[.agg #[.int .i64 a.letters, s, e, t], .int .i64 x] w (ResA (leftP a x) w) := by
 obtain ⟨As, cs, rfl, -, -⟩ := ra.start.cell_
 obtain ⟨Ae, ce, rfl, -, -⟩ := ra.end_.cell_
 obtain ⟨At, ct, rfl, -, -⟩ := RdS.open_ ([] : List (List Int)) ra.steps
 have hck := Lib.hid (fun W (hW : Below w.heap.size w W) => CheckA_any a _ _ _ W (ra.below hW (Nat.le_refl _)))
 by_cases h0 : checkA a = 0
 ·obtain ⟨k0, ok, h12, hk0⟩ := checkA_ex h0
  have hrr : leftP a x = if x < 0 ∨ a.letters ≤ x then (aut0, 3) else toldA (leftA a x.toNat) := if_pos h0
  rw [h0] at hck
  rw [hk0] at hck hrr ⊢
  by_cases hx1 : x < 0
  ·have hr : Hid (leftP a x = (aut0, 3)) := Lib.hid (hrr.trans (if_pos (.inl hx1)))
   clear ra ok h0 hrr hk0 h12
   generalize leftP a x = R at *
   generalize a.start.length = n at *
   generalize a.end_.length = m at *
   generalize a.steps.length = k at *
   obtain ⟨x0, x1, hz, hB⟩ := two0 w (.cells #[.int .i64 (k0 : Nat), .slice As n cs, .slice Ae m ce, .slice At k ct] 25) (.cells #[.int .i64 0, .slice none 0 0, .slice none 0 0, .slice none 0 0] 25)
   go_enter Tryd.func43, Tryd.ntmps43
   go_wp2_with fail
   generalize ((w.alloc (.cells #[.int .i64 (k0 : Nat), .slice As n cs, .slice Ae m ce, .slice At k ct] 25)).alloc (.cells #[.int .i64 0, .slice none 0 0, .slice none 0 0, .slice none 0 0] 25)) = X at *
   refine (hck.out X hB).mono ?_; rintro e W1 ⟨rfl, hb⟩
   have hB1 := Lib.hid (Below.then_ hB hb)
   replace x0 := (hb.block w.heap.size (by omega)).trans x0
   replace x1 := (hb.block (w.heap.size + 1) (by omega)).trans x1
   have hz1 := hb.size
   obtain ⟨q0, q1, q2, q3⟩ := cells4 x0
   obtain ⟨p0, p1, p2, p3⟩ := cells4 x1
   obtain ⟨f0, f1, f2, f3⟩ := frozen4 x1
   clear hb hB
   replace x0 := Lib.hid x0
   replace x1 := Lib.hid x1
   go_wp2_with fail
   refine bodyPost_ret (res_ct rfl _ _ (w.heap.size + 1) 25 #[.int .i64 0, .slice none 0 0, .slice none 0 0, .slice none 0 0] (0, 0) _ rfl (heap_set4 _ _ _ _ x1.out) rfl rfl rfl) rfl ?_
   rw [hr.out]
   exact resA_set (p := (aut0, 3)) x1.out (by omega) hB1.out (FrA.zero _ _) (Nat.le_refl _)
  by_cases hx2 : (k0 : Int) ≤ x
  ·have hr : Hid (leftP a x = (aut0, 3)) := Lib.hid (hrr.trans (if_pos (.inr hx2)))
   clear ra ok h0 hrr hk0 h12
   generalize leftP a x = R at *
   generalize a.start.length = n at *
   generalize a.end_.length = m at *
   generalize a.steps.length = k at *
   obtain ⟨x0, x1, hz, hB⟩ := two0 w (.cells #[.int .i64 (k0 : Nat), .slice As n cs, .slice Ae m ce, .slice At k ct] 25) (.cells #[.int .i64 0, .slice none 0 0, .slice none 0 0, .slice none 0 0] 25)
   go_enter Tryd.func43, Tryd.ntmps43
   go_wp2_with fail
   generalize ((w.alloc (.cells #[.int .i64 (k0 : Nat), .slice As n cs, .slice Ae m ce, .slice At k ct] 25)).alloc (.cells #[.int .i64 0, .slice none 0 0, .slice none 0 0, .slice none 0 0] 25)) = X at *
   refine (hck.out X hB).mono ?_; rintro e W1 ⟨rfl, hb⟩
   have hB1 := Lib.hid (Below.then_ hB hb)
   replace x0 := (hb.block w.heap.size (by omega)).trans x0
   replace x1 := (hb.block (w.heap.size + 1) (by omega)).trans x1
   have hz1 := hb.size
   obtain ⟨q0, q1, q2, q3⟩ := cells4 x0
   obtain ⟨p0, p1, p2, p3⟩ := cells4 x1
   obtain ⟨f0, f1, f2, f3⟩ := frozen4 x1
   clear hb hB
   replace x0 := Lib.hid x0
   replace x1 := Lib.hid x1
   go_wp2_with fail
   refine bodyPost_ret (res_ct rfl _ _ (w.heap.size + 1) 25 #[.int .i64 0, .slice none 0 0, .slice none 0 0, .slice none 0 0] (0, 0) _ rfl (heap_set4 _ _ _ _ x1.out) rfl rfl rfl) rfl ?_
   rw [hr.out]
   exact resA_set (p := (aut0, 3)) x1.out (by omega) hB1.out (FrA.zero _ _) (Nat.le_refl _)
  obtain ⟨q, rfl⟩ := Int.eq_ofNat_of_zero_le (show 0 ≤ x by omega)
  have hr : Hid (leftP a (q : Int) = toldA (leftA a q)) := Lib.hid (hrr.trans (if_neg (by omega)))
  have hqk : q < k0 := by omega
  have cF := Lib.hid (fun W (hW : Below w.heap.size w W) => forth_any ok (by omega) a.start q hqk rfl ok.start.2 _ _ _ _ W (ra.below hW (Nat.le_refl _)) (ra.start.below hW (Nat.le_refl _)))
  have cR := Lib.hid (fun v W (hW : Below w.heap.size w W) (hv : RdI W v (alongL a.start.length a.start (a.steps.getD q []))) => result_any (left_ok ok q) (by omega) v _ _ W ⟨hv, ra.end_.below hW (Nat.le_refl _), ra.steps.below hW (Nat.le_refl _)⟩)
  have hal := Lib.hid (alongL_len a.start.length a.start (a.steps.getD q []))
  rw [hk0] at cF
  clear ra ok h0 hrr hk0
  generalize leftP a (q : Int) = R at *
  generalize toldA (leftA a q) = p at *
  generalize alongL a.start.length a.start (a.steps.getD q []) = row at *
  generalize a.start.length = n at *
  generalize a.end_.length = m at *
  generalize a.steps.length = k at *
  obtain ⟨x0, x1, hz, hB⟩ := two0 w (.cells #[.int .i64 (k0 : Nat), .slice As n cs, .slice Ae m ce, .slice At k ct] 25) (.cells #[.int .i64 0, .slice none 0 0, .slice none 0 0, .slice none 0 0] 25)
  go_enter Tryd.func43, Tryd.ntmps43
  go_wp2_with fail
  generalize ((w.alloc (.cells #[.int .i64 (k0 : Nat), .slice As n cs, .slice Ae m ce, .slice At k ct] 25)).alloc (.cells #[.int .i64 0, .slice none 0 0, .slice none 0 0, .slice none 0 0] 25)) = X at *
  refine (hck.out X hB).mono ?_; rintro e W1 ⟨rfl, hb⟩
  have hB1 := Lib.hid (Below.then_ hB hb)
  replace x0 := (hb.block w.heap.size (by omega)).trans x0
  replace x1 := (hb.block (w.heap.size + 1) (by omega)).trans x1
  have hz1 := hb.size
  obtain ⟨q0, q1, q2, q3⟩ := cells4 x0
  obtain ⟨p0, p1, p2, p3⟩ := cells4 x1
  obtain ⟨f0, f1, f2, f3⟩ := frozen4 x1
  clear hb hB
  clear hck
  go_wp2
  have hT := hB1
  refine D_begin (fun W => W.heap[w.heap.size]? = some (.cells #[.int .i64 (k0 : Nat), .slice As n cs, .slice Ae m ce, .slice At k ct] 25 (0, 0))) (fun _ => True) 99 (by kernel_rfl) ?_
  change wpAnyD _ _ _ _ _ _ _ _ _ _ W1.drew
  simp only [List.size_toArray, List.length_cons, List.length_nil, Nat.reduceAdd, Array.replicate_succ, Array.replicate_zero, List.push_toArray, List.append_toArray, List.nil_append, List.cons_append]
  have hD12 : Below W1.heap.size W1 W1.drew := (Below.refl _ _).drew
  replace hT := Lib.hid (Below.then_ hT.out hD12)
  replace x0 := heap_keep x0 hD12
  replace x1 := heap_keep x1 hD12
  have z_D12 := hD12.size; clear hD12
  generalize W1.drew = D12 at *
  refine Dt 0 rfl ?_ (by first | exact x0s | exact x0) (fun _ => trivial) ?_ ?_
  rotate_left; · intro w1 hw1; obtain ⟨q0, q1, q2, q3⟩ := cells4 hw1; go_simp; try with_reducible rfl
  try simp only [Act.put, s_1, s_2, s_3, s_4, s_5, s_6]
  refine Dt 1 rfl ?_ (by first | exact x0s | exact x0) (fun _ => trivial) ?_ ?_
  rotate_left; · intro w1 hw1; obtain ⟨q0, q1, q2, q3⟩ := cells4 hw1; go_simp; try with_reducible rfl
  try simp only [Act.put, s_1, s_2, s_3, s_4, s_5, s_6]
  refine Dt 3 rfl ?_ (by first | exact x0s | exact x0) (fun _ => trivial) ?_ ?_
  rotate_left; · intro w1 hw1; obtain ⟨q0, q1, q2, q3⟩ := cells4 hw1; go_simp; try with_reducible rfl
  try simp only [Act.put, s_1, s_2, s_3, s_4, s_5, s_6]
  refine Dt 5 rfl ?_ (by first | exact x0s | exact x0) (fun _ => trivial) ?_ ?_
  rotate_left; · intro w1 hw1; obtain ⟨q0, q1, q2, q3⟩ := cells4 hw1; go_simp; try with_reducible rfl
  try simp only [Act.put, s_1, s_2, s_3, s_4, s_5, s_6]
  refine Dt 7 rfl ?_ (by first | exact x0s | exact x0) (fun _ => trivial) ?_ ?_
  rotate_left; · intro w1 hw1; obtain ⟨q0, q1, q2, q3⟩ := cells4 hw1; go_simp; try with_reducible rfl
  try simp only [Act.put, s_1, s_2, s_3, s_4, s_5, s_6]
  refine Dt 2 rfl ?_ (by first | exact x0s | exact x0) (fun _ => trivial) ?_ ?_
  rotate_left; · intro w1 hw1; obtain ⟨q0, q1, q2, q3⟩ := cells4 hw1; go_simp; try with_reducible rfl
  try simp only [Act.put, s_1, s_2, s_3, s_4, s_5, s_6]
  refine Dt 4 rfl ?_ (by first | exact x0s | exact x0) (fun _ => trivial) ?_ ?_
  rotate_left; · intro w1 hw1; obtain ⟨q0, q1, q2, q3⟩ := cells4 hw1; go_simp; try with_reducible rfl
  try simp only [Act.put, s_1, s_2, s_3, s_4, s_5, s_6]
  refine Dt 8 rfl ?_ (by first | exact x0s | exact x0) (fun _ => trivial) ?_ ?_
  rotate_left; · intro w1 hw1; obtain ⟨q0, q1, q2, q3⟩ := cells4 hw1; go_simp; try with_reducible rfl
  try simp only [Act.put, s_1, s_2, s_3, s_4, s_5, s_6]
  refine D_one (i := 6) (by kernel_rfl) rfl ?_
  intro K hK
  rw [if_pos (by rfl)]
  go_wp2_with fail
  refine (cF.out D12 hT.out).mono ?_; rintro e D12_1 ⟨⟨v6, rfl, o6⟩, hE1⟩
  replace hT := Lib.hid (Below.then_ hT.out hE1)
  replace x0 := heap_keep x0 hE1
  replace x1 := heap_keep x1 hE1
  obtain ⟨A6, c6, e6⟩ := own_form o6
  rw [hal.out] at e6
  subst e6
  replace o6 := Lib.hid o6
  have z_1 := hE1.size; clear hE1
  refine hK _ _ (by first | exact x0s | exact x0) (fun _ _ => trivial) ?_
  clear hK K
  try simp only [Act.put, s_1, s_2, s_3, s_4, s_5, s_6]
  refine D_one (i := 9) (by kernel_rfl) rfl ?_
  intro K hK
  rw [if_pos (by rfl)]
  go_wp2_with fail
  refine (with_any (k0 : Nat) As Ae At A6 Ae n m k n m cs ce ct c6 ce D12_1).mono ?_; rintro e D12_2 ⟨rfl, hE2⟩
  replace hT := Lib.hid (Below.then_ hT.out hE2)
  replace x0 := heap_keep x0 hE2
  replace x1 := heap_keep x1 hE2
  replace o6 := Lib.hid (o6.out.below hE2)
  have z_2 := hE2.size; clear hE2
  refine hK _ _ (by first | exact x0s | exact x0) (fun _ _ => trivial) ?_
  clear hK K
  try simp only [Act.put, s_1, s_2, s_3, s_4, s_5, s_6]
  refine D_one (i := 10) (by kernel_rfl) rfl ?_
  intro K hK
  rw [if_pos (by rfl)]
  have hzz := hT.out.size
  go_wp2_with fail
  refine (cR.out _ D12_2 hT.out (o6.out.rd (by rw [hal.out]; omega))).mono ?_; rintro e D12_3 ⟨x, rfl, hF, hE3⟩
  replace hT := Lib.hid (Below.then_ hT.out hE3)
  replace x0 := heap_keep x0 hE3
  replace x1 := heap_keep x1 hE3
  replace o6 := Lib.hid (o6.out.below hE3)
  obtain ⟨A1, A2, A3, m1, m2, m3, c1, c2, c3, rfl⟩ := hF.form
  obtain ⟨bb, er⟩ := p
  simp only [] at hF
  have hF2 := Lib.hid (hF.base hzz)
  clear hF
  obtain ⟨p0, p1, p2, p3⟩ := cells4 x1
  obtain ⟨f0, f1, f2, f3⟩ := frozen4 x1
  have x1r := Lib.hid x1
  have z_3 := hE3.size; clear hE3
  refine hK _ _ (by first | exact x0s | exact x0) (fun _ _ => trivial) ?_
  clear hK K
  try simp only [Act.put, s_1, s_2, s_3, s_4, s_5, s_6]
  refine Dt 11 rfl ?_ (by first | exact x0s | exact x0) (fun _ => trivial) ?_ ?_
  rotate_left; · intro w1 hw1; obtain ⟨q0, q1, q2, q3⟩ := cells4 hw1; go_simp; try with_reducible rfl
  try simp only [Act.put, s_1, s_2, s_3, s_4, s_5, s_6]
  refine Dt 12 rfl ?_ (by first | exact x0s | exact x0) (fun _ => trivial) ?_ ?_
  rotate_left; · intro w1 hw1; obtain ⟨q0, q1, q2, q3⟩ := cells4 hw1; go_simp; try with_reducible rfl
  try simp only [Act.put, s_1, s_2, s_3, s_4, s_5, s_6]
  refine D_one (i := 13) (by kernel_rfl) rfl ?_
  intro K hK
  rw [if_pos (by rfl)]
  go_simp
  have x0s := (frame_set4 D12_3 (w.heap.size + 1) (.int .i64 bb.letters) (.slice A1 m1 c1) (.slice A2 m2 c2) (.slice A3 m3 c3)).heap x0 (by omega)
  refine hK _ _ (by first | exact x0s | exact x0) (fun _ _ => trivial) ?_
  clear hK K
  try simp only [Act.put, s_1, s_2, s_3, s_4, s_5, s_6]
  refine D_one (i := 14) (by kernel_rfl) rfl ?_
  intro K hK
  rw [if_pos (by rfl)]
  go_simp
  refine hK _ _ (by first | exact x0s | exact x0) (fun _ _ => trivial) ?_
  clear hK K
  try simp only [Act.put, s_1, s_2, s_3, s_4, s_5, s_6]
  refine D_done (by kernel_rfl) ?_ _
  clear x0s x0 x1
  go_wp2
  refine bodyPost_ret (res_ct rfl _ _ (w.heap.size + 1) 25 #[.int .i64 bb.letters, .slice A1 m1 c1, .slice A2 m2 c2, .slice A3 m3 c3] (0, 0) _ rfl (heap_set4 _ _ _ _ x1r.out) rfl rfl rfl) rfl ?_
  rw [hr.out]
  exact resA_set (p := (bb, er)) x1r.out (by omega) hT.out hF2.out (Nat.le_refl _)
 ·have hr : Hid (leftP a x = (aut0, checkA a)) := Lib.hid (if_neg h0)
  have hne : (checkA a != 0) = true := by rw [bne_iff_ne]; exact h0
  clear ra
  generalize leftP a x = R at *
  generalize checkA a = er at *
  generalize a.letters = L at *
  generalize a.start.length = n at *
  generalize a.end_.length = m at *
  generalize a.steps.length = k at *
  obtain ⟨x0, x1, hz, hB⟩ := two0 w (.cells #[.int .i64 L, .slice As n cs, .slice Ae m ce, .slice At k ct] 25) (.cells #[.int .i64 0, .slice none 0 0, .slice none 0 0, .slice none 0 0] 25)
  go_enter Tryd.func43, Tryd.ntmps43
  go_wp2_with fail
  generalize ((w.alloc (.cells #[.int .i64 L, .slice As n cs, .slice Ae m ce, .slice At k ct] 25)).alloc (.cells #[.int .i64 0, .slice none 0 0, .slice none 0 0, .slice none 0 0] 25)) = X at *
  refine (hck.out X hB).mono ?_; rintro e W1 ⟨rfl, hb⟩
  have hB1 := Lib.hid (Below.then_ hB hb)
  replace x0 := (hb.block w.heap.size (by omega)).trans x0
  replace x1 := (hb.block (w.heap.size + 1) (by omega)).trans x1
  have hz1 := hb.size
  obtain ⟨q0, q1, q2, q3⟩ := cells4 x0
  obtain ⟨p0, p1, p2, p3⟩ := cells4 x1
  obtain ⟨f0, f1, f2, f3⟩ := frozen4 x1
  clear hb hB
  replace x0 := Lib.hid x0
  replace x1 := Lib.hid x1
  go_wp2_with fail
  refine bodyPost_ret (res_ct rfl _ _ (w.heap.size + 1) 25 #[.int .i64 0, .slice none 0 0, .slice none 0 0, .slice none 0 0] (0, 0) _ rfl (heap_set4 _ _ _ _ x1.out) rfl rfl rfl) rfl ?_
  rw [hr.out]
  exact resA_set (p := (aut0, er)) x1.out (by omega) hB1.out (FrA.zero _ _) (Nat.le_refl _)
end Go.Proofs.YtlpldfocljnpnaaDoor
namespace Go.Proofs.YtlpldfocljnpnaaDoor
open Go.RowKit Go.Shelf
def ruledE (bs : List Int) (n i k : Nat) : Int := if k + 1 = n then bs.getD (n - 1 - i) 0 else if i = k + 1 then 1 else 0
def ruledA (r : Rule) : Aut := mkA 1 r.start ((List.replicate r.by_.length 0).set 0 1) (fun _ => ruledE r.by_ r.by_.length) r.by_.length
noncomputable def ofRuleP (r : Rule) : Aut × Int := if rightR r = 0 then toldA (ruledA r) else (aut0, rightR r)
theorem unit_ok (n : Nat) : ((List.replicate n (0 : Int)).set 0 1).length = n ∧ ∀ u ∈ (List.replicate n (0 : Int)).set 0 1, 0 ≤ u ∧ u < 65521 :=
 ⟨by simp, fun u hu => by
  rcases List.mem_or_eq_of_mem_set hu with h | h
  ·rw [List.eq_of_mem_replicate h]; decide
  ·rw [h]; decide⟩
theorem ruled_ok {r : Rule} (h : rightR r = 0) : okA (ruledA r) 1 r.by_.length := by
 obtain ⟨o1, o2, o3, o4⟩ := rightR_ok h
 refine mkA_ok (by omega) ⟨o2, o4⟩ (unit_ok _) fun x i j _ _ _ => ?_
 unfold ruledE
 split
 ·exact getD_bd o3 _
 ·split <;> decide
theorem OfRule_1 (bs : List Int) (n : Nat) (hbs : bs.length = n) (hn : n ≤ 1000) (A : Option Addr) (c : Nat) (gn gr i k : Nat) (hi : i < n) (hk : k < n) (W : World) (rr : RdI W (.slice A n c) bs) (hgn : W.cell? ⟨gn, 0, none⟩ = some (.int .i64 (n : Nat))) (hgr : W.cell? ⟨gr, 0, none⟩ = some (.slice A n c)) :
  Calls Tryd.prog 99 (#[.int .i64 i, .int .i64 k] ++ #[.pointer (some ⟨gn, 0, none⟩), .pointer (some ⟨gr, 0, none⟩)]) W fun r w' => r = .returned (.int .i64 (ruledE bs n i k)) ∧ Below W.heap.size W w' := by
 have hE : Hid (ruledE bs n i k = if k + 1 = n then bs.getD (n - 1 - i) 0 else if i = k + 1 then 1 else 0) := Lib.hid rfl
 have w1 : IntKind.i64.wrap ((n : Int) - 1) = (n : Int) - 1 := IntWalk.i64_in _ ⟨by omega, by omega⟩
 generalize ruledE bs n i k = R at *
 by_cases h1 : k + 1 = n
 ·obtain ⟨A', c', e, -, -, h3⟩ := rr.open_
  simp only [Value.slice.injEq] at e
  obtain ⟨rfl, -, rfl⟩ := e
  obtain ⟨p, hp⟩ : ∃ p, n - 1 - i = p := ⟨_, rfl⟩
  have hr := hE.out.trans (if_pos h1)
  rw [hp] at hr
  obtain ⟨b3, o3, rfl, hc⟩ := h3 p (by omega)
  have y1 : (k : Int) = (n : Int) - 1 := by omega
  have yb : ((k : Int) == (n : Int) - 1) = true := by rw [beq_iff_eq]; exact y1
  have w2 : IntKind.i64.wrap ((n : Int) - 1 - (i : Int)) = (p : Int) := by rw [IntKind.wrap_i64]; omega
  have y2 : (p : Int) < (n : Int) := by omega
  have y0 : (0 : Int) ≤ (p : Int) := by omega
  replace hr := Lib.hid hr
  replace hp := Lib.hid hp
  replace h1 := Lib.hid h1
  replace y1 := Lib.hid y1
  replace hbs := Lib.hid hbs
  clear h3 rr hE
  generalize bs.getD p 0 = v at *
  go_enter Tryd.func99, Tryd.ntmps99
  go_wp2
  go_ret
  exact ⟨by rw [hr.out]; rfl, Below.refl _ _⟩
 ·have yb : ((k : Int) == (n : Int) - 1) = false := by rw [beq_eq_false_iff_ne]; omega
  have yn : ¬ ((k : Int) = (n : Int) - 1) := by omega
  have w3 : IntKind.i64.wrap ((k : Int) + 1) = (k : Int) + 1 := IntWalk.i64_in _ ⟨by omega, by omega⟩
  by_cases h2 : i = k + 1
  ·have hr := Lib.hid (hE.out.trans ((if_neg h1).trans (if_pos h2)))
   have yc : ((i : Int) == (k : Int) + 1) = true := by rw [beq_iff_eq]; omega
   have yd : (i : Int) = (k : Int) + 1 := by omega
   replace h2 := Lib.hid h2
   replace yd := Lib.hid yd
   clear rr hE
   go_enter Tryd.func99, Tryd.ntmps99
   go_wp2
   go_ret
   exact ⟨by rw [hr.out]; rfl, Below.refl _ _⟩
  ·have hr := Lib.hid (hE.out.trans ((if_neg h1).trans (if_neg h2)))
   have yc : ((i : Int) == (k : Int) + 1) = false := by rw [beq_eq_false_iff_ne]; omega
   have yd : ¬ (i : Int) = (k : Int) + 1 := by omega
   replace h2 := Lib.hid h2
   clear rr hE
   go_enter Tryd.func99, Tryd.ntmps99
   go_wp2
   go_ret
   exact ⟨by rw [hr.out]; rfl, Below.refl _ _⟩
end Go.Proofs.YtlpldfocljnpnaaDoor
namespace Go.Proofs.YtlpldfocljnpnaaDoor
open Go.RowKit Go.Shelf
def ofi5_P (X : World) (h hn n m : Nat) (Ab As : Option Addr) (cb cs : Nat) : Prop := (X.heap[h]? = some (.cells #[.slice Ab m cb, .slice As n cs] 41 (0, 0))) ∧ (X.cell? ⟨hn, 0, none⟩ = some (.int .i64 (n : Nat))) ∧ (n ≤ 1000)
noncomputable def ofi5_o : Array Oper := dgOps (((Tryd.f49).body.bind (dgReg 5)).getD .skip)
theorem ofi5_k : dOk ofi5_o 38 = true := by kernel_rfl
def ofi5_F (X : World) (h n : Nat) (As : Option Addr) (cs : Nat) (d : Nat → Bool) (V : Nat → Value) (w : World) : Prop := Below X.heap.size X w ∧ (d 0 = true → V 0 = .pointer (some ⟨h, 1, none⟩)) ∧ (d 1 = true → V 1 = .slice As n cs) ∧ (d 2 = true → V 2 = .int .i64 (n : Nat)) ∧ (d 4 = true → d 3 = true ∧ V 4 = .agg #[.int .i64 1, .slice As n cs, V 3, .slice none 0 0]) ∧ (d 3 = true → ∃ g, V 3 = .slice (some ⟨g, 0, none⟩) n n ∧ X.heap.size ≤ g ∧ OwnI w X.heap.size (.slice (some ⟨g, 0, none⟩) n n) (List.replicate n 0)) ∧ (d 5 = true → ∃ g, V 5 = .pointer (some ⟨g, 0, none⟩) ∧ X.heap.size ≤ g ∧ (d 6 = false → w.heap[g]? = some (.cells #[.int .i64 0, .slice none 0 0, .slice none 0 0, .slice none 0 0] 25 (0, 0))) ∧ (d 6 = true → w.heap[g]? = some (.cells #[.int .i64 1, .slice As n cs, V 3, .slice none 0 0] 25 (0, 0)))) ∧ (d 6 = true → d 5 = true ∧ d 3 = true)
theorem ofi5_s {X : World} {h hn n m : Nat} {Ab As : Option Addr} {cb cs : Nat} {Q : Exit → Act → World → Prop} {b : Array Value} (hP : ofi5_P X h hn n m Ab As cb cs) (b1 : b.getD 1 undef = .pointer (some ⟨h, 0, none⟩)) (b5 : b.getD 5 undef = .pointer (some ⟨hn, 0, none⟩)) : ∀ i, i < ofi5_o.size → DStep Tryd.prog .any ofi5_o Q b (ofi5_F X h n As cs) i := by
 rw [show ofi5_o.size = 7 from by kernel_rfl]
 intro i hi d V a w oi hoi ⟨hB, v0, v1, v2, v4, f3, f5, f6⟩ hdi hdp hsl K hK
 obtain ⟨hx, hxn, hl⟩ := hP
 have sl := fun j t (h : dstOf ofi5_o j = some t) (hd : d j = true) => (hsl t).trans (dSlot_own ofi5_k h hd)
 have sb := fun t (h : noDst ofi5_o t = true) => (hsl t).trans (dSlot_base h)
 clear hsl
 rcases (by omega : i = 0 ∨ i = 1 ∨ i = 2 ∨ i = 3 ∨ i = 4 ∨ i = 5 ∨ i = 6) with rfl | rfl | rfl | rfl | rfl | rfl | rfl
 all_goals
  conv at hoi => lhs; whnf
  obtain rfl := Option.some.inj hoi
  conv => arg 2; whnf
 ·have r1 := (sb 1 (by kernel_rfl)).trans b1
  clear sl sb hdp hoi
  obtain ⟨p0, p1⟩ := cell_two ((hB.block h (lt_of_block hx)).trans hx); have q0 := (hB.cell (World.block_lt_of_cell? _ _ hxn)).trans hxn
  go_simp
  exact hK _ _ ⟨hB, fun _ => rfl, v1, v2, v4, f3, f5, f6⟩
 ·have d0 := hdp 0 (by kernel_rfl)
  have r16 := sl 0 16 (by kernel_rfl) d0
  rw [(v0 d0)] at r16
  clear sl sb hdp hoi
  obtain ⟨p0, p1⟩ := cell_two ((hB.block h (lt_of_block hx)).trans hx); have q0 := (hB.cell (World.block_lt_of_cell? _ _ hxn)).trans hxn
  go_simp
  exact hK _ _ ⟨hB, v0, fun _ => rfl, v2, v4, f3, f5, f6⟩
 ·have r5 := (sb 5 (by kernel_rfl)).trans b5
  clear sl sb hdp hoi
  obtain ⟨p0, p1⟩ := cell_two ((hB.block h (lt_of_block hx)).trans hx); have q0 := (hB.cell (World.block_lt_of_cell? _ _ hxn)).trans hxn
  go_simp
  exact hK _ _ ⟨hB, v0, v1, fun _ => rfl, v4, f3, f5, f6⟩
 ·have d2 := hdp 2 (by kernel_rfl)
  have r18 := sl 2 18 (by kernel_rfl) d2
  rw [(v2 d2)] at r18
  clear sl sb hdp hoi
  have hmk := run_make_row' (P := Tryd.prog) 22 3 _ _ Tryd.underlying22 infoI rfl .i64 .i64 n (by omega) (by omega)
  have hE : Below w.heap.size w (w.alloc (.cells (madeCells #[.int .i64 0] n) 3)) := (Below.refl _ _).alloc (Nat.le_refl _) _
  go_simp
  exact hK _ _ ⟨Below.then_ hB hE, v0, v1, v2, fun q => absurd (v4 q).1 (by rw [hdi]; decide), fun _ => ⟨_, rfl, hB.size, OwnI_made w X.heap.size n hB.size (by unfold maxLen; omega)⟩, fun q => by obtain ⟨g, g1, g2, g3, g4⟩ := f5 q; exact ⟨g, g1, g2, fun z => heap_keep (g3 z) hE, fun z => absurd (f6 z).2 (by rw [hdi]; decide)⟩, fun z => absurd (f6 z).2 (by rw [hdi]; decide)⟩
 ·have d1 := hdp 1 (by kernel_rfl)
  have d3 := hdp 3 (by kernel_rfl)
  have r17 := sl 1 17 (by kernel_rfl) d1
  rw [(v1 d1)] at r17
  have r19 := sl 3 19 (by kernel_rfl) d3
  clear sl sb hdp hoi
  obtain ⟨g, e3, -⟩ := f3 d3
  rw [e3] at r19
  go_simp
  exact hK _ _ ⟨hB, v0, v1, v2, fun _ => ⟨d3, by show _ = Value.agg #[_, _, V 3, _]; rw [e3]; rfl⟩, f3, f5, f6⟩
 ·clear sl sb hdp hoi
  have hE : Below w.heap.size w (w.alloc (.cells #[.int .i64 0, .slice none 0 0, .slice none 0 0, .slice none 0 0] 25)) := (Below.refl _ _).alloc (Nat.le_refl _) _
  go_simp
  exact hK _ _ ⟨Below.then_ hB hE, v0, v1, v2, v4, fun q => by obtain ⟨g, g1, g2, g3⟩ := f3 q; exact ⟨g, g1, g2, g3.below hE⟩, fun _ => ⟨_, rfl, hB.size, fun _ => heap_alloc_new _ _, fun z => absurd (f6 z).1 (by rw [hdi]; decide)⟩, fun z => absurd (f6 z).1 (by rw [hdi]; decide)⟩
 ·have d0 := hdp 0 (by kernel_rfl)
  have d1 := hdp 1 (by kernel_rfl)
  have d2 := hdp 2 (by kernel_rfl)
  have d3 := hdp 3 (by kernel_rfl)
  have d4 := hdp 4 (by kernel_rfl)
  have d5 := hdp 5 (by kernel_rfl)
  have r6 := sl 5 6 (by kernel_rfl) d5
  have r20 := sl 4 20 (by kernel_rfl) d4
  rw [(v4 d4).2] at r20
  clear sl sb hdp hoi
  obtain ⟨g, e5, g1, g2, -⟩ := f5 d5
  replace g2 := g2 hdi
  obtain ⟨g3, e3, b3, o3⟩ := f3 d3
  rw [e5] at r6
  rw [e3] at r20
  obtain ⟨p0, p1, p2, p3⟩ := cells4 g2
  obtain ⟨q0, q1, q2, q3⟩ := frozen4 g2
  go_simp
  exact hK undef _ ⟨hB.trans ((frame_set4 w g _ _ _ _).below hB.size (fun q h => by rw [h]; exact g1)), v0, v1, v2, v4, fun _ => ⟨g3, e3, b3, set4_own g2 o3 _ _ _ _⟩, fun _ => ⟨g, e5, g1, fun z => noB z, fun _ => by show _ = some (Obj.cells #[_, _, V 3, _] _ _); rw [e3]; exact heap_set4 _ _ _ _ g2⟩, fun _ => ⟨d5, d3⟩⟩
theorem ofi5 {z0 z2 z3 z4 z6 z7 z8 z9 z10 z11 z12 z13 z14 z15 z16 z17 z18 z19 z20 z21 z22 z23 z24 z25 z26 z27 z28 z29 z30 z31 z32 z33 z34 z35 z36 z37 : Value} {ds : List Deferred} (X : World) (h hn n m : Nat) (Ab As : Option Addr) (cb cs : Nat) (K0 : Act → World → Prop) (hP : Hid (ofi5_P X h hn n m Ab As cb cs)) (hQ : Hid (∀ (V : Nat → Value) (W : World), ofi5_F X h n As cs (fun _ => true) V W → K0 ⟨#[z0, (.pointer (some ⟨h, 0, none⟩)), z2, z3, z4, (.pointer (some ⟨hn, 0, none⟩)), V 5, z7, z8, z9, z10, z11, z12, z13, z14, z15, V 0, V 1, V 2, V 3, V 4, z21, z22, z23, z24, z25, z26, z27, z28, z29, z30, z31, z32, z33, z34, z35, z36, z37], ds⟩ W)) (w : World) (hB : Hid (Below X.heap.size X w)) : Code.wp Tryd.prog (Code.region 5 ofi5_o true) (Exit.then K0 (fun _ _ _ => False)) ⟨#[z0, (.pointer (some ⟨h, 0, none⟩)), z2, z3, z4, (.pointer (some ⟨hn, 0, none⟩)), z6, z7, z8, z9, z10, z11, z12, z13, z14, z15, z16, z17, z18, z19, z20, z21, z22, z23, z24, z25, z26, z27, z28, z29, z30, z31, z32, z33, z34, z35, z36, z37], ds⟩ w := by
 have hs : ofi5_o.size = 7 := by kernel_rfl
 refine region_inv (ofi5_F X h n As cs) (by kernel_rfl) ofi5_k ?_ ?_ (by kernel_rfl) ?_
 ·rw [hs]
  exact ⟨hB.out.drew, fun q => absurd q (by decide), fun q => absurd q (by decide), fun q => absurd q (by decide), fun q => absurd q (by decide), fun q => absurd q (by decide), fun q => absurd q (by decide), fun q => absurd q (by decide)⟩
 ·exact ofi5_s hP.out rfl rfl
 ·intro V W hF
  exact (congrArg (fun x => K0 x W) (by kernel_rfl)).mpr (hQ.out V W hF)
end Go.Proofs.YtlpldfocljnpnaaDoor
