/- The reference of layer 17 The reference of layer 17 Layer 17's law The law SeriesWeights -/
import Derived.Test.YtlpldfocljnpnaaDoorKaa
import Derived.Test.YtlpldfocljnpnaaDoorKaj
import Derived.Test.YtlpldfocljnpnaaDoorKad
import Derived.Test.YtlpldfocljnpnaaDoorKan
import Derived.Test.YtlpldfocljnpnaaDoorKao
import Derived.Test.YtlpldfocljnpnaaDoorKak
set_option maxRecDepth 100000
set_option maxHeartbeats 6400000
set_option linter.unusedSimpArgs false
namespace Go.Proofs.YtlpldfocljnpnaaDoor
open Go.RowKit Go.Shelf
def owi_P (X : World) (h n m k : Nat) (l : Int) (As Ae At : Option Addr) (cs ce ct : Nat) (S E : List Int) : Prop := (X.heap[h]? = some (.cells #[.int .i64 l, .slice As n cs, .slice Ae m ce, .slice At k ct] 25 (0, 0))) ∧ (RdI X (.slice As n cs) S) ∧ (RdI X (.slice Ae m ce) E) ∧ (S.length = n ∧ E.length = m ∧ n ≤ 1000 ∧ m ≤ 1000)
noncomputable def owi_o : Array Oper := dgOps (((Tryd.f10).body.bind (dgReg 1)).getD .skip)
theorem owi_k : dOk owi_o 49 = true := by kernel_rfl
def owi_F (X : World) (h n m : Nat) (l : Int) (As Ae : Option Addr) (cs ce : Nat) (S E : List Int) (d : Nat → Bool) (V : Nat → Value) (w : World) : Prop := Below X.heap.size X w ∧ (d 0 = true → V 0 = .pointer (some ⟨h, 0, none⟩)) ∧ (d 1 = true → V 1 = .int .i64 l) ∧ (d 3 = true → V 3 = .pointer (some ⟨h, 1, none⟩)) ∧ (d 4 = true → V 4 = .slice As n cs) ∧ (d 7 = true → V 7 = .pointer (some ⟨h, 2, none⟩)) ∧ (d 8 = true → V 8 = .slice Ae m ce) ∧ (d 10 = true → d 5 = true ∧ d 9 = true ∧ V 10 = .agg #[.int .i64 l, V 5, V 9, .slice none 0 0]) ∧ (d 2 = true → (∃ g, V 2 = .slice (some ⟨g, 0, none⟩) 0 0) ∧ (d 5 = false → OwnI w X.heap.size (V 2) [])) ∧ (d 6 = true → (∃ g, V 6 = .slice (some ⟨g, 0, none⟩) 0 0) ∧ (d 9 = false → OwnI w X.heap.size (V 6) [])) ∧ (d 5 = true → (∃ A c, V 5 = .slice A n c) ∧ OwnI w X.heap.size (V 5) S) ∧ (d 9 = true → d 5 = true ∧ (∃ A c, V 9 = .slice A m c) ∧ OwnI w X.heap.size (V 9) E) ∧ (d 2 = true → d 5 = false → d 6 = true → d 9 = false → (V 6).ownBlock ≠ (V 2).ownBlock) ∧ (d 5 = true → d 6 = true → d 9 = false → (V 5).ownBlock = none ∨ (V 5).ownBlock ≠ (V 6).ownBlock) ∧ (d 11 = true → ∃ g, V 11 = .pointer (some ⟨g, 0, none⟩) ∧ X.heap.size ≤ g ∧ (d 12 = false → w.heap[g]? = some (.cells #[.int .i64 0, .slice none 0 0, .slice none 0 0, .slice none 0 0] 25 (0, 0))) ∧ (d 12 = true → w.heap[g]? = some (.cells #[.int .i64 l, V 5, V 9, .slice none 0 0] 25 (0, 0)))) ∧ (d 12 = true → d 5 = true ∧ d 9 = true ∧ d 11 = true)
theorem owi_s {X : World} {h n m k : Nat} {l : Int} {As Ae At : Option Addr} {cs ce ct : Nat} {S E : List Int} {Q : Exit → Act → World → Prop} {b : Array Value} (hP : owi_P X h n m k l As Ae At cs ce ct S E) (b1 : b.getD 1 undef = .pointer (some ⟨h, 0, none⟩)) : ∀ i, i < owi_o.size → DStep Tryd.prog .any owi_o Q b (owi_F X h n m l As Ae cs ce S E) i := by
 rw [show owi_o.size = 13 from by kernel_rfl]
 intro i hi d V a w oi hoi ⟨hB, v0, v1, v3, v4, v7, v8, v10, f2, f6, f5, f9, f26, f56, f11, f12⟩ hdi hdp hsl K hK
 obtain ⟨hx, r1, r2, hl⟩ := hP
 have sl := fun j t (h : dstOf owi_o j = some t) (hd : d j = true) => (hsl t).trans (dSlot_own owi_k h hd)
 have sb := fun t (h : noDst owi_o t = true) => (hsl t).trans (dSlot_base h)
 clear hsl
 rcases (by omega : i = 0 ∨ i = 1 ∨ i = 2 ∨ i = 3 ∨ i = 4 ∨ i = 5 ∨ i = 6 ∨ i = 7 ∨ i = 8 ∨ i = 9 ∨ i = 10 ∨ i = 11 ∨ i = 12) with rfl | rfl | rfl | rfl | rfl | rfl | rfl | rfl | rfl | rfl | rfl | rfl | rfl
 all_goals
  conv at hoi => lhs; whnf
  obtain rfl := Option.some.inj hoi
  conv => arg 2; whnf
 ·have r1 := (sb 1 (by kernel_rfl)).trans b1
  clear sl sb hdp hoi
  obtain ⟨p0, p1, p2, p3⟩ := cells4 ((hB.block h (lt_of_block hx)).trans hx)
  go_simp
  exact hK _ _ ⟨hB, fun _ => rfl, v1, v3, v4, v7, v8, v10, f2, f6, f5, f9, f26, f56, f11, f12⟩
 ·have d0 := hdp 0 (by kernel_rfl)
  have r9 := sl 0 9 (by kernel_rfl) d0
  rw [(v0 d0)] at r9
  clear sl sb hdp hoi
  obtain ⟨p0, p1, p2, p3⟩ := cells4 ((hB.block h (lt_of_block hx)).trans hx)
  go_simp
  exact hK _ _ ⟨hB, v0, fun _ => rfl, v3, v4, v7, v8, v10, f2, f6, f5, f9, f26, f56, f11, f12⟩
 ·clear sl sb hdp hoi
  have hE : Below w.heap.size w (w.alloc (.cells #[] 3)) := (Below.refl _ _).alloc (Nat.le_refl _) _
  go_simp
  exact hK _ _ ⟨Below.then_ hB hE, v0, v1, v3, v4, v7, v8, v10, fun _ => ⟨⟨_, rfl⟩, fun _ => World.ownsRow_made w #[] 0 hB.size (by unfold maxLen; omega) rfl⟩, fun q => ⟨(f6 q).1, fun z => OwnI.below ((f6 q).2 z) hE⟩, fun q => ⟨(f5 q).1, (f5 q).2.below hE⟩, fun q => ⟨(f9 q).1, (f9 q).2.1, (f9 q).2.2.below hE⟩, fun _ _ q z e => by have h1 := (((f6 q).2 z).lt _ e).2; exact Nat.lt_irrefl _ h1, f56, fun q => by obtain ⟨g, g1, g2, g3, g4⟩ := f11 q; exact ⟨g, g1, g2, fun z => heap_keep (g3 z) hE, fun z => heap_keep (g4 z) hE⟩, f12⟩
 ·have r1 := (sb 1 (by kernel_rfl)).trans b1
  clear sl sb hdp hoi
  obtain ⟨p0, p1, p2, p3⟩ := cells4 ((hB.block h (lt_of_block hx)).trans hx)
  go_simp
  exact hK _ _ ⟨hB, v0, v1, fun _ => rfl, v4, v7, v8, v10, f2, f6, f5, f9, f26, f56, f11, f12⟩
 ·have d3 := hdp 3 (by kernel_rfl)
  have r12 := sl 3 12 (by kernel_rfl) d3
  rw [(v3 d3)] at r12
  clear sl sb hdp hoi
  obtain ⟨p0, p1, p2, p3⟩ := cells4 ((hB.block h (lt_of_block hx)).trans hx)
  go_simp
  exact hK _ _ ⟨hB, v0, v1, v3, fun _ => rfl, v7, v8, v10, f2, f6, f5, f9, f26, f56, f11, f12⟩
 ·have d2 := hdp 2 (by kernel_rfl)
  have d4 := hdp 4 (by kernel_rfl)
  have r11 := sl 2 11 (by kernel_rfl) d2
  have r13 := sl 4 13 (by kernel_rfl) d4
  rw [(v4 d4)] at r13
  clear sl sb hdp hoi
  obtain ⟨⟨g2, e2⟩, o2⟩ := f2 d2
  replace o2 := o2 hdi
  rw [e2] at r11 o2
  refine op_of_step rfl (step_append_rd (by rfl) _ _ (by rfl) X.heap.size (.slice (some ⟨g2, 0, none⟩) 0 0) (.slice As n cs) 0 [] S (eval_tmp r11) (eval_tmp r13) o2 (r1.below hB (Nat.le_refl _)) (by omega) hB.size ?_)
  intro v5 W5 hown hgrow hat
  rw [Nat.zero_add, List.nil_append, hl.1] at hown
  have oD : OwnI W5 X.heap.size v5 S := by unfold OwnI; rw [hl.1]; exact hown
  exact hK _ _ ⟨hB.grown hgrow hB.size (fun q hq => (o2.lt q hq).1), v0, v1, v3, v4, v7, v8, fun q => absurd (v10 q).1 (by rw [hdi]; decide), fun q => ⟨(f2 q).1, fun z => noB z⟩, fun q => ⟨(f6 q).1, fun z => OwnI.base (World.ownsRow.kept ((f6 q).2 z) hgrow (.inr (fun e => f26 d2 hdi q z (by rw [e2]; exact e)))) (Nat.le_refl _)⟩, fun _ => ⟨own_shape hown, oD⟩, fun q => absurd (f9 q).1 (by rw [hdi]; decide), fun _ z => noB z, fun _ q z => by rcases hat with h | h; exact .inr (fun e => f26 d2 hdi q z (by rw [e2]; exact e.symm.trans h)); exact .inr (fun e => by have h1 := (((f6 q).2 z).lt _ (e.symm.trans h)).2; exact Nat.lt_irrefl _ h1), fun q => by obtain ⟨g, g1, g2, g3, g4⟩ := f11 q; exact ⟨g, g1, g2, fun z => grown_heap o2 hgrow (g3 z) (by decide), fun z => absurd (f12 z).1 (by rw [hdi]; decide)⟩, fun z => absurd (f12 z).1 (by rw [hdi]; decide)⟩
 ·clear sl sb hdp hoi
  have hE : Below w.heap.size w (w.alloc (.cells #[] 3)) := (Below.refl _ _).alloc (Nat.le_refl _) _
  go_simp
  exact hK _ _ ⟨Below.then_ hB hE, v0, v1, v3, v4, v7, v8, v10, fun q => ⟨(f2 q).1, fun z => OwnI.below ((f2 q).2 z) hE⟩, fun _ => ⟨⟨_, rfl⟩, fun _ => World.ownsRow_made w #[] 0 hB.size (by unfold maxLen; omega) rfl⟩, fun q => ⟨(f5 q).1, (f5 q).2.below hE⟩, fun q => ⟨(f9 q).1, (f9 q).2.1, (f9 q).2.2.below hE⟩, fun q z _ _ e => by have h1 := (((f2 q).2 z).lt _ e.symm).2; exact Nat.lt_irrefl _ h1, fun q _ _ => by by_cases hn : (V 5).ownBlock = none; exact .inl hn; exact .inr (fun e => by have h1 := ((f5 q).2.lt _ e).2; exact Nat.lt_irrefl _ h1), fun q => by obtain ⟨g, g1, g2, g3, g4⟩ := f11 q; exact ⟨g, g1, g2, fun z => heap_keep (g3 z) hE, fun z => heap_keep (g4 z) hE⟩, f12⟩
 ·have r1 := (sb 1 (by kernel_rfl)).trans b1
  clear sl sb hdp hoi
  obtain ⟨p0, p1, p2, p3⟩ := cells4 ((hB.block h (lt_of_block hx)).trans hx)
  go_simp
  exact hK _ _ ⟨hB, v0, v1, v3, v4, fun _ => rfl, v8, v10, f2, f6, f5, f9, f26, f56, f11, f12⟩
 ·have d7 := hdp 7 (by kernel_rfl)
  have r16 := sl 7 16 (by kernel_rfl) d7
  rw [(v7 d7)] at r16
  clear sl sb hdp hoi
  obtain ⟨p0, p1, p2, p3⟩ := cells4 ((hB.block h (lt_of_block hx)).trans hx)
  go_simp
  exact hK _ _ ⟨hB, v0, v1, v3, v4, v7, fun _ => rfl, v10, f2, f6, f5, f9, f26, f56, f11, f12⟩
 ·have d5 := hdp 5 (by kernel_rfl)
  have d6 := hdp 6 (by kernel_rfl)
  have d8 := hdp 8 (by kernel_rfl)
  have r15 := sl 6 15 (by kernel_rfl) d6
  have r17 := sl 8 17 (by kernel_rfl) d8
  rw [(v8 d8)] at r17
  clear sl sb hdp hoi
  obtain ⟨⟨g6, e6⟩, o6⟩ := f6 d6
  replace o6 := o6 hdi
  rw [e6] at r15 o6
  refine op_of_step rfl (step_append_rd (by rfl) _ _ (by rfl) X.heap.size (.slice (some ⟨g6, 0, none⟩) 0 0) (.slice Ae m ce) 0 [] E (eval_tmp r15) (eval_tmp r17) o6 (r2.below hB (Nat.le_refl _)) (by omega) hB.size ?_)
  intro v9 W9 hown hgrow hat
  rw [Nat.zero_add, List.nil_append, hl.2.1] at hown
  have oD : OwnI W9 X.heap.size v9 E := by unfold OwnI; rw [hl.2.1]; exact hown
  exact hK _ _ ⟨hB.grown hgrow hB.size (fun q hq => (o6.lt q hq).1), v0, v1, v3, v4, v7, v8, fun q => absurd (v10 q).2.1 (by rw [hdi]; decide), fun q => ⟨(f2 q).1, fun z => absurd (show d 5 = false from z) (by rw [d5]; decide)⟩, fun q => ⟨(f6 q).1, fun z => noB z⟩, fun q => ⟨(f5 q).1, OwnI.base (World.ownsRow.kept (f5 q).2 hgrow (by have h := f56 q d6 hdi; rw [e6] at h; exact h)) (Nat.le_refl _)⟩, fun _ => ⟨d5, own_shape hown, oD⟩, fun _ _ _ z => noB z, fun _ _ z => noB z, fun q => by obtain ⟨g, g1, g2, g3, g4⟩ := f11 q; exact ⟨g, g1, g2, fun z => grown_heap o6 hgrow (g3 z) (by decide), fun z => absurd (f12 z).2.1 (by rw [hdi]; decide)⟩, fun z => absurd (f12 z).2.1 (by rw [hdi]; decide)⟩
 ·have d1 := hdp 1 (by kernel_rfl)
  have d5 := hdp 5 (by kernel_rfl)
  have d9 := hdp 9 (by kernel_rfl)
  have r10 := sl 1 10 (by kernel_rfl) d1
  rw [(v1 d1)] at r10
  have r14 := sl 5 14 (by kernel_rfl) d5
  have r18 := sl 9 18 (by kernel_rfl) d9
  clear sl sb hdp hoi
  obtain ⟨⟨A5, c5, e5⟩, -⟩ := f5 d5
  obtain ⟨-, ⟨A9, c9, e9⟩, -⟩ := f9 d9
  rw [e5] at r14
  rw [e9] at r18
  go_simp
  exact hK _ _ ⟨hB, v0, v1, v3, v4, v7, v8, fun _ => ⟨d5, d9, by show _ = Value.agg #[_, V 5, V 9, _]; rw [e5, e9]; rfl⟩, f2, f6, f5, f9, f26, f56, f11, f12⟩
 ·clear sl sb hdp hoi
  have hE : Below w.heap.size w (w.alloc (.cells #[.int .i64 0, .slice none 0 0, .slice none 0 0, .slice none 0 0] 25)) := (Below.refl _ _).alloc (Nat.le_refl _) _
  go_simp
  exact hK _ _ ⟨Below.then_ hB hE, v0, v1, v3, v4, v7, v8, v10, fun q => ⟨(f2 q).1, fun z => OwnI.below ((f2 q).2 z) hE⟩, fun q => ⟨(f6 q).1, fun z => OwnI.below ((f6 q).2 z) hE⟩, fun q => ⟨(f5 q).1, (f5 q).2.below hE⟩, fun q => ⟨(f9 q).1, (f9 q).2.1, (f9 q).2.2.below hE⟩, f26, f56, fun _ => ⟨_, rfl, hB.size, fun _ => heap_alloc_new _ _, fun z => absurd (f12 z).2.2 (by rw [hdi]; decide)⟩, fun z => absurd (f12 z).2.2 (by rw [hdi]; decide)⟩
 ·have d0 := hdp 0 (by kernel_rfl)
  have d1 := hdp 1 (by kernel_rfl)
  have d2 := hdp 2 (by kernel_rfl)
  have d3 := hdp 3 (by kernel_rfl)
  have d4 := hdp 4 (by kernel_rfl)
  have d5 := hdp 5 (by kernel_rfl)
  have d6 := hdp 6 (by kernel_rfl)
  have d7 := hdp 7 (by kernel_rfl)
  have d8 := hdp 8 (by kernel_rfl)
  have d9 := hdp 9 (by kernel_rfl)
  have d10 := hdp 10 (by kernel_rfl)
  have d11 := hdp 11 (by kernel_rfl)
  have r3 := sl 11 3 (by kernel_rfl) d11
  have r19 := sl 10 19 (by kernel_rfl) d10
  rw [(v10 d10).2.2] at r19
  clear sl sb hdp hoi
  obtain ⟨g, e11, g1, g2, -⟩ := f11 d11
  replace g2 := g2 hdi
  have e10 := (v10 d10).2.2
  obtain ⟨⟨A5, c5, e5⟩, o5⟩ := f5 d5
  obtain ⟨-, ⟨A9, c9, e9⟩, o9⟩ := f9 d9
  rw [e5, e9] at e10
  rw [e11] at r3
  obtain ⟨p0, p1, p2, p3⟩ := cells4 g2
  obtain ⟨q0, q1, q2, q3⟩ := frozen4 g2
  rw [e5] at r19
  rw [e9] at r19
  go_simp
  exact hK undef _ ⟨hB.trans ((frame_set4 w g _ _ _ _).below hB.size (fun q h => by rw [h]; exact g1)), v0, v1, v3, v4, v7, v8, v10, fun q => ⟨(f2 q).1, fun z => absurd (show d 5 = false from z) (by rw [d5]; decide)⟩, fun q => ⟨(f6 q).1, fun z => absurd (show d 9 = false from z) (by rw [d9]; decide)⟩, fun q => ⟨(f5 q).1, set4_own g2 o5 _ _ _ _⟩, fun q => ⟨d5, (f9 q).2.1, set4_own g2 o9 _ _ _ _⟩, f26, f56, fun _ => ⟨g, e11, g1, fun z => noB z, fun _ => by show _ = some (Obj.cells #[.int .i64 l, V 5, V 9, _] _ _); rw [e5, e9]; exact heap_set4 _ _ _ _ g2⟩, fun _ => ⟨d5, d9, d11⟩⟩
theorem owi {z0 z2 z3 z4 z5 z6 z7 z8 z9 z10 z11 z12 z13 z14 z15 z16 z17 z18 z19 z20 z21 z22 z23 z24 z25 z26 z27 z28 z29 z30 z31 z32 z33 z34 z35 z36 z37 z38 z39 z40 z41 z42 z43 z44 z45 z46 z47 z48 : Value} {ds : List Deferred} (X : World) (h n m k : Nat) (l : Int) (As Ae At : Option Addr) (cs ce ct : Nat) (S E : List Int) (K0 : Act → World → Prop) (hP : Hid (owi_P X h n m k l As Ae At cs ce ct S E)) (hQ : Hid (∀ (V : Nat → Value) (W : World), owi_F X h n m l As Ae cs ce S E (fun _ => true) V W → K0 ⟨#[z0, (.pointer (some ⟨h, 0, none⟩)), z2, V 11, z4, z5, z6, z7, z8, V 0, V 1, V 2, V 3, V 4, V 5, V 6, V 7, V 8, V 9, V 10, z20, z21, z22, z23, z24, z25, z26, z27, z28, z29, z30, z31, z32, z33, z34, z35, z36, z37, z38, z39, z40, z41, z42, z43, z44, z45, z46, z47, z48], ds⟩ W)) (w : World) (hB : Hid (Below X.heap.size X w)) : Code.wp Tryd.prog (Code.region 1 owi_o true) (Exit.then K0 (fun _ _ _ => False)) ⟨#[z0, (.pointer (some ⟨h, 0, none⟩)), z2, z3, z4, z5, z6, z7, z8, z9, z10, z11, z12, z13, z14, z15, z16, z17, z18, z19, z20, z21, z22, z23, z24, z25, z26, z27, z28, z29, z30, z31, z32, z33, z34, z35, z36, z37, z38, z39, z40, z41, z42, z43, z44, z45, z46, z47, z48], ds⟩ w := by
 have hs : owi_o.size = 13 := by kernel_rfl
 refine region_inv (owi_F X h n m l As Ae cs ce S E) (by kernel_rfl) owi_k ?_ ?_ (by kernel_rfl) ?_
 ·rw [hs]
  exact ⟨hB.out.drew, fun q => absurd q (by decide), fun q => absurd q (by decide), fun q => absurd q (by decide), fun q => absurd q (by decide), fun q => absurd q (by decide), fun q => absurd q (by decide), fun q => absurd q (by decide), fun q => absurd q (by decide), fun q => absurd q (by decide), fun q => absurd q (by decide), fun q => absurd q (by decide), fun q => absurd q (by decide), fun q => absurd q (by decide), fun q => absurd q (by decide), fun q => absurd q (by decide)⟩
 ·exact owi_s hP.out rfl
 ·intro V W hF
  exact (congrArg (fun x => K0 x W) (by kernel_rfl)).mpr (hQ.out V W hF)
end Go.Proofs.YtlpldfocljnpnaaDoor
namespace Go.Proofs.YtlpldfocljnpnaaDoor
open Go.RowKit Go.Shelf
theorem OwnMv_made (W : World) : OwnMv (W.alloc (.cells #[] 22)) W.heap.size (.slice (some ⟨W.heap.size, 0, none⟩) 0 0) [] [] :=
 ⟨World.ownsRow_made W #[] 0 (Nat.le_refl _) (by unfold maxLen; omega) rfl, fun j r u h => by simp at h, fun i j u u' _ h => by simp at h⟩
theorem take_snocM {α : Type} (l : List α) (d : α) {q : Nat} (h : q < l.length) : l.take q ++ [l.getD q d] = l.take (q + 1) := by
 rw [List.take_succ_eq_append_getElem h, List.getD_eq_getElem?_getD, List.getElem?_eq_getElem h]; rfl
theorem Own17_any (a : Aut) (s e t : Value) (w : World) (ra : RdA w s e t a) (h1 : a.start.length ≤ 1000) (h2 : a.end_.length ≤ 1000) (h3 : a.steps.length ≤ 1000) (h4 : ∀ m ∈ a.steps, m.length ≤ 1000 ∧ ∀ r ∈ m, r.length ≤ 1000) :
  Calls Tryd.prog 10 #[.agg #[.int .i64 a.letters, s, e, t]] w (LitOut a w) := by
 obtain ⟨As, cs, rfl, -, -⟩ := ra.start.cell_
 obtain ⟨Ae, ce, rfl, -, -⟩ := ra.end_.cell_
 obtain ⟨At, ct, rfl, tl, tc, t3⟩ := RdS.open_ ([] : List (List Int)) ra.steps
 have hrs := Lib.hid ra.start
 have hre := Lib.hid ra.end_
 obtain ⟨l, hl⟩ : ∃ l, a.letters = l := ⟨_, rfl⟩
 obtain ⟨S0, hS0⟩ : ∃ S, a.start = S := ⟨_, rfl⟩
 obtain ⟨E0, hE0⟩ : ∃ S, a.end_ = S := ⟨_, rfl⟩
 obtain ⟨M, hM⟩ : ∃ M, a.steps = M := ⟨_, rfl⟩
 have ha : Hid (a = ⟨l, S0, E0, M⟩) := Lib.hid (by rw [← hl, ← hS0, ← hE0, ← hM])
 rw [hl]
 rw [hS0] at hrs h1 ⊢
 rw [hE0] at hre h2 ⊢
 rw [hM] at t3 tl tc h3 h4 ⊢
 clear ra hl hS0 hE0 hM
 obtain ⟨n, hn⟩ : ∃ n, S0.length = n := ⟨_, rfl⟩
 obtain ⟨m, hm⟩ : ∃ n, E0.length = n := ⟨_, rfl⟩
 obtain ⟨k, hk⟩ : ∃ n, M.length = n := ⟨_, rfl⟩
 rw [hn] at hrs h1 ⊢
 rw [hm] at hre h2 ⊢
 rw [hk] at t3 tl tc h3 ⊢
 have hlen := Lib.hid (show S0.length = n ∧ E0.length = m ∧ n ≤ 1000 ∧ m ≤ 1000 from ⟨hn, hm, h1, h2⟩)
 replace hk := Lib.hid hk
 replace h4 := Lib.hid h4
 replace t3 := Lib.hid t3
 clear hn hm
 obtain ⟨x0, x1, hz, hB⟩ := two0 w (.cells #[.int .i64 l, .slice As n cs, .slice Ae m ce, .slice At k ct] 25) (.cells #[.int .i64 0, .slice none 0 0, .slice none 0 0, .slice none 0 0] 25)
 obtain ⟨iT, hiT, jT0, jT1, jT2⟩ := info_parts infoRR2
 obtain ⟨iR, hiR, jR0, jR1, jR2⟩ := info_parts infoR
 go_enter Tryd.func10, Tryd.ntmps10
 go_upto_region 1 with fail
 generalize ((w.alloc (.cells #[.int .i64 l, .slice As n cs, .slice Ae m ce, .slice At k ct] 25)).alloc (.cells #[.int .i64 0, .slice none 0 0, .slice none 0 0, .slice none 0 0] 25)) = X at *
 refine Code.wp_mono (Q := Exit.then _ (fun _ _ _ => False)) (no_exit _ _) ?_
 refine owi X w.heap.size n m k l As Ae At cs ce ct S0 E0 _ (Lib.hid ⟨x0, hrs.out.below hB (Nat.le_refl _), hre.out.below hB (Nat.le_refl _), hlen.out⟩) (Lib.hid ?_) X (Lib.hid (Below.refl _ _))
 intro U W ⟨hW, _, _, _, _, _, _, _, _, _, f5, f9, _, _, f11, _⟩
 obtain ⟨⟨A5, c5, e5⟩, o5⟩ := f5 rfl
 obtain ⟨-, ⟨A9, c9, e9⟩, o9⟩ := f9 rfl
 obtain ⟨g11, e11, b11, -, x11⟩ := f11 rfl
 rw [e11]
 rw [e5] at o5
 rw [e9] at o9
 replace x11 := x11 rfl
 rw [e5, e9] at x11
 replace hW := Lib.hid hW
 replace o5 := Lib.hid o5
 replace o9 := Lib.hid o9
 replace b11 := Lib.hid b11
 replace x11 := Lib.hid x11
 clear f5 f9 f11 e5 e9 e11
 rename (∀ (a : Act) (w : World), Code.wp _ _ _ a w → _) => hK2
 refine hK2 _ _ ?_
 clear hK2
 conv => arg 4; dsimp only
 have hzW := hW.out.size
 have hBW := Lib.hid (Below.then_ hB hW.out)
 have cX := Lib.hid (fun W' (hW' : Below X.heap.size X W') => (⟨(hW'.block _ (lt_of_block x0)).trans x0, (hW'.block _ (lt_of_block x1)).trans x1⟩ : _ ∧ _))
 have hS0 : Hid (∃ t us lo, WgtS w X.heap.size g11 l (.slice A5 n c5) (.slice A9 m c9) t us lo S0 E0 (M.take 0) W ∧ Below X.heap.size X W) :=
  Lib.hid ⟨_, [], fun _ => W.heap.size, ⟨hBW.out, by omega, x11.out, by have := b11.out; omega, .inr ⟨_, by omega, o5.out⟩, .inr ⟨_, by omega, o9.out⟩, by rw [List.take_zero]; exact OwnQ.nil W hzW (Nat.le_refl _)⟩, hW.out⟩
 obtain ⟨z0, z1⟩ := cX.out W hW.out
 obtain ⟨q0, q1, q2, q3⟩ := cells4 z0
 have hb11 := Lib.hid b11.out
 clear o5 o9 x11 x0 x1 z0 z1 hW
 go_wp2
 clear q0 q1 q2 q3
 go_loopw [5, 6, 8, 23, 28, 29, 30] (fun _ _ _ i _ _ _ wr => ∃ q : Nat, q ≤ k ∧ i = .int .i64 q ∧ Hid (∃ t us lo, WgtS w X.heap.size g11 l (.slice A5 n c5) (.slice A9 m c9) t us lo S0 E0 (M.take q) wr ∧ Below X.heap.size X wr)) (fun _ _ _ i _ _ _ _ => k - (intOf i).toNat)
 case atStart => exact ⟨0, Nat.zero_le _, rfl, hS0⟩
 case round =>
  obtain ⟨q, hq, rfl, hR⟩ := hrel
  obtain ⟨t, us, lo, hS, hBX⟩ := hR.out
  by_cases hlt : q < k
  ·obtain ⟨bq, oq, u0, rfl, hc, hu⟩ := t3.out q hlt
   replace hc := (hS.low.cell (p := ⟨bq, oq + q, none⟩) (World.block_lt_of_cell? w _ hc)).trans hc
   obtain ⟨Am, cm, rfl, -, -, m3⟩ := hu.open_
   have hmm := h4.out _ (getD_mem M [] (by rw [hk.out]; exact hlt))
   have htk := Lib.hid (take_snocM M ([] : List (List Int)) (q := q) (by rw [hk.out]; exact hlt))
   obtain ⟨m0, hm0⟩ : ∃ m0, M.getD q [] = m0 := ⟨_, rfl⟩
   rw [hm0] at m3 hc hmm htk
   obtain ⟨mm, hml⟩ : ∃ mm, m0.length = mm := ⟨_, rfl⟩
   rw [hml] at m3 hc
   have hmb : mm ≤ 1000 := by rw [← hml]; exact hmm.1
   replace m3 := Lib.hid m3
   have hS' := Lib.hid hS
   have hBX' := Lib.hid hBX
   have hrb := Lib.hid hmm.2
   have hta : (M.take q).length = q := by rw [List.length_take]; have := hk.out; omega
   replace hta := Lib.hid hta
   replace hml := Lib.hid hml
   have y1 : (q : Int) < (k : Int) := by omega
   have y0 : (0 : Int) ≤ (q : Int) := by omega
   obtain ⟨wo, rfl⟩ : ∃ wo : World, wo = wr := ⟨_, rfl⟩
   have hal : Below wo.heap.size wo (wo.alloc (.cells #[] 22)) := (Below.refl _ _).alloc (Nat.le_refl _) _
   have hmv := Lib.hid (OwnMv_made wo)
   replace hal := Lib.hid hal
   clear hu hmm hS hBX hR hm0
   go_wp2
   clear hc
   go_loopw [6, 8, 30] (fun rows _ i wr => ∃ p : Nat, p ≤ mm ∧ i = .int .i64 p ∧ Hid (Below wo.heap.size wo wr) ∧ Hid (∃ vs, OwnMv wr wo.heap.size rows (m0.take p) vs)) (fun _ _ i _ => mm - (intOf i).toNat)
   case atStart => exact ⟨0, Nat.zero_le _, rfl, hal, Lib.hid ⟨[], by rw [List.take_zero]; exact hmv.out⟩⟩
   case round =>
    obtain ⟨p, hp, rfl, hB2, hM2⟩ := hrel
    obtain ⟨vs, hMv⟩ := hM2.out
    by_cases hlp : p < mm
    ·obtain ⟨br, or_, u1, rfl, hc2, hu⟩ := m3.out p hlp
     have hwr := hS'.out.low.trans (hB2.out.mono hS'.out.low.size)
     replace hc2 := (hwr.cell (p := ⟨br, or_ + p, none⟩) (World.block_lt_of_cell? w _ hc2)).trans hc2
     have hrl := hrb.out _ (getD_mem m0 [] (by rw [hml.out]; exact hlp))
     have htr := Lib.hid (take_snocM m0 ([] : List Int) (q := p) (by rw [hml.out]; exact hlp))
     have hvl : (m0.take p).length = p := by rw [List.length_take]; have := hml.out; omega
     obtain ⟨A1, c1, rfl⟩ := own_shape hMv.outer
     rw [hvl] at hMv ⊢
     replace hMv := Lib.hid hMv
     replace hvl := Lib.hid hvl
     have hal2 : Below wr.heap.size wr (wr.alloc (.cells #[] 3)) := (Below.refl _ _).alloc (Nat.le_refl _) _
     have hown0 := Lib.hid (show (wr.alloc (.cells #[] 3)).ownsRow wr.heap.size 3 1 (.slice (some ⟨wr.heap.size, 0, none⟩) 0 0) 0 [] from World.ownsRow_made wr #[] 0 (Nat.le_refl _) (by unfold maxLen; omega) rfl)
     have hrd := Lib.hid (hu.below (hwr.trans (hal2.mono hwr.size)) (Nat.le_refl _))
     obtain ⟨row, hrow⟩ : ∃ row, m0.getD p [] = row := ⟨_, rfl⟩
     rw [hrow] at hrd hrl htr
     obtain ⟨Ar, cr, er, -, -⟩ := hu.cell_
     rw [hrow] at er
     subst er
     have x1 : (p : Int) < (mm : Int) := by omega
     have x0 : (0 : Int) ≤ (p : Int) := by omega
     have hsz2 := hB2.out.size
     replace hal2 := Lib.hid hal2
     replace hrow := Lib.hid hrow
     clear hu hwr hM2
     have hsz3 : (wr.alloc (.cells #[] 3)).heap.size = wr.heap.size + 1 := World.size_alloc _ _
     replace hsz3 := Lib.hid hsz3
     go_wp2_with (at_builtin; first | (refine wpList_append_rd rfl _ _ rfl wr.heap.size (.slice (some ⟨wr.heap.size, 0, none⟩) 0 0) (.slice Ar row.length cr) 0 [] row rfl rfl hown0.out hrd.out (by omega) (by simp) ?_; intro v3 W3 hown hgrow hat; obtain ⟨A3, c3, rfl⟩ := own_shape hown; rw [List.nil_append, Nat.zero_add] at hown; have hB3 := Lib.hid (show Below wr.heap.size wr W3 from hal2.out.grown hgrow hal2.out.size (fun q hq => (hown0.out.lt q hq).1)); have hO3 := Lib.hid (show OwnI W3 wr.heap.size (.slice A3 row.length c3) row from hown); have hw3 := Lib.hid (show (W3.alloc (.cells #[.slice A3 row.length c3] 22)).ownsRow wo.heap.size 22 1 (.slice A1 p c1) p vs from (by have h := (hMv.out.kept (Below.then_ hB3.out ((Below.refl _ _).alloc (Nat.le_refl _) (.cells #[.slice A3 row.length c3] 22)))).outer; rwa [hvl.out] at h)); have hsz4 := hB3.out.size; clear hown hgrow hat hown0 hrd hal2) | (refine wpList_app1 rfl _ _ 59 rfl 22 iR _ 1 24 Tryd.underlying59 hiR jR0 jR1 jR2 rfl (by omega) (by omega) wo.heap.size (.slice A1 p c1) p vs rfl hw3.out ⟨W3.heap.size, 0, none⟩ [.slice A3 row.length c3] rfl rfl (news_new W3 [.slice A3 row.length c3] _) (by simp [Value.oneCell']) (by omega) (by simp; omega) ?_; intro A6 c6 W5 hown5 hgrow5 hat5))
     obtain ⟨g1', g2'⟩ := snoc_round hB2.out hMv.out hB3.out hO3.out (by rw [hvl.out]) hown5 hgrow5
     rw [htr.out] at g2'
     replace g1' := Lib.hid g1'
     replace g2' := Lib.hid g2'
     clear hown5 hgrow5 hat5 hw3
     go_wp2
     go_roundw
     case rel => exact ⟨p + 1, by omega, by go_num, g1', g2'⟩
     case measure => simp [intOf]; omega
    ·obtain rfl : p = mm := by omega
     have hS2 := hS'.out.kept hB2.out
     have hma : m0.take p = m0 := List.take_of_length_le (by rw [hml.out]; exact Nat.le_refl _)
     rw [hma] at hMv
     have htop := hS'.out.mats.top
     rw [hta.out] at htop
     obtain ⟨A1, c1, e1⟩ := own_form hMv.outer
     rw [hml.out] at e1
     subst e1
     obtain ⟨A7, c7, e7⟩ := own_form hS2.mats.outer
     rw [hta.out] at e7
     subst e7
     have hal5 : Below wr.heap.size wr (wr.alloc (.cells #[.slice A1 p c1] 59)) := (Below.refl _ _).alloc (Nat.le_refl _) _
     have hS5 := Lib.hid (hS2.kept hal5)
     have o8 := Lib.hid ((hMv.kept hal5).m)
     have hot := Lib.hid (show (wr.alloc (.cells #[.slice A1 p c1] 59)).ownsRow X.heap.size 59 1 (.slice A7 q c7) q us from by have := hS5.out.mats.outer; rwa [hta.out] at this)
     have hBX5 := Lib.hid (hBX'.out.trans ((hB2.out.trans (hal5.mono hB2.out.size)).mono hBX'.out.size))
     obtain ⟨t0, t1, t2, t3'⟩ := cells4 hS2.box
     obtain ⟨v0, v1, v2, v3⟩ := cells4 hS5.out.box
     have hsz2 := hB2.out.size
     have hsz5 := hBX'.out.size
     replace htop := Lib.hid htop
     clear hS2 hMv hM2 hal5 hma
     go_wp2_with (at_builtin; (refine wpList_app1 rfl _ _ 23 rfl 59 iT _ 1 24 Tryd.underlying23 hiT jT0 jT1 jT2 rfl (by omega) (by omega) X.heap.size (.slice A7 q c7) q us rfl hot.out ⟨wr.heap.size, 0, none⟩ [.slice A1 p c1] rfl rfl (news_new wr [.slice A1 p c1] _) (by simp [Value.oneCell']) (by omega) (by simp; omega) ?_); intro A10 c10 X8 hown8 hgrow8 hat8; obtain ⟨hbx8, ⟨lo', hS9, hlo'⟩, hF9, hlow8⟩ := hS5.out.snoc (B := wo.heap.size) (by rw [hta.out]; exact htop.out) (by simp; omega) o8.out (by rw [hta.out]; exact hown8) hgrow8; obtain ⟨t1, t2, t3, t4⟩ := cells4 hbx8; have f3 := froz hbx8 3)
     rw [htk.out] at hS9
     have hfin := Lib.hid (show ∃ t us lo, WgtS w X.heap.size g11 l (.slice A5 n c5) (.slice A9 m c9) t us lo S0 E0 (M.take (q + 1)) (X8.setCell ⟨g11, 3, none⟩ (.slice A10 (q + 1) c10)) ∧ Below X.heap.size X (X8.setCell ⟨g11, 3, none⟩ (.slice A10 (q + 1) c10)) from ⟨_, _, lo', hS9, hBX5.out.trans (hF9.below hBX5.out.size (fun g hg => by
      rcases hg with hg | rfl
      ·exact (hot.out.lt g hg).1
      ·exact hb11.out))⟩)
     clear hS9 hlo' hF9 hlow8 hown8 hgrow8 hat8 hbx8
     go_wp2
     go_roundw
     case rel => exact ⟨q + 1, by omega, by go_num, hfin⟩
     case measure => simp [intOf]; omega
  ·obtain rfl : q = k := by omega
   have hma : M.take q = M := List.take_of_length_le (by rw [hk.out]; exact Nat.le_refl _)
   rw [hma] at hS
   obtain ⟨A7, c7, e7⟩ := own_form hS.mats.outer
   rw [hk.out] at e7
   subst e7
   obtain ⟨z0, z1⟩ := cX.out wr hBX
   obtain ⟨q0, q1, q2, q3⟩ := cells4 hS.box
   obtain ⟨p0, p1, p2, p3⟩ := cells4 z1
   obtain ⟨f0, f1, f2, f3⟩ := frozen4 z1
   have hS' := Lib.hid hS
   have z1' := Lib.hid z1
   clear hS hR z0 z1 hma
   go_wp2
   refine bodyPost_ret (res_c1 rfl _ _ (w.heap.size + 1) 25 #[.int .i64 l, .slice A5 n c5, .slice A9 m c9, .slice A7 q c7] (0, 0) _ rfl (heap_set4 _ _ _ _ z1'.out) rfl rfl rfl) rfl ?_
   rw [ha.out]
   have hF := frame_set4 wr (w.heap.size + 1) (.int .i64 l) (.slice A5 n c5) (.slice A9 m c9) (.slice A7 q c7)
   have hty : ∀ g cs T, g = w.heap.size + 1 → wr.heap[g]? = some (.cells cs T (0, 0)) → T ≠ 3 := fun g cs T hg hT => by
    subst hg; rw [z1'.out] at hT; cases hT; decide
   have hlw := hS'.out.low.trans (hF.below (B := w.heap.size) hS'.out.low.size (fun g hg => by omega))
   exact ⟨_, _, _, rfl, ⟨(hS'.out.start.frame hF hty).rd hlw (by have := hlen.out; omega), (hS'.out.end_.frame hF hty).rd hlw (by have := hlen.out; omega), (set4_ownQ z1'.out hS'.out.mats _ _ _ _).rd (by have := hk.out; omega) (fun m hm => by have := h4.out m hm; exact ⟨by omega, fun r hr => by have := this.2 r hr; omega⟩)⟩, hlw⟩
end Go.Proofs.YtlpldfocljnpnaaDoor
namespace Go.Proofs.YtlpldfocljnpnaaDoor
open Go.RowKit Go.Shelf
def wideM (m : List (List Int)) : Bool := decide (16 < m.length) || m.any fun r => decide (16 < r.length)
def greatA (a : Aut) : Bool := decide (16 < a.start.length) || decide (16 < a.end_.length) || decide (6 < a.steps.length) || a.steps.any wideM
theorem greatA_small {a : Aut} (h : greatA a = false) : a.start.length ≤ 16 ∧ a.end_.length ≤ 16 ∧ a.steps.length ≤ 6 ∧ ∀ m ∈ a.steps, m.length ≤ 16 ∧ ∀ r ∈ m, r.length ≤ 16 := by
 unfold greatA at h
 simp only [Bool.or_eq_false_iff, decide_eq_false_iff_not, List.any_eq_false] at h
 obtain ⟨⟨⟨h1, h2⟩, h3⟩, h4⟩ := h
 refine ⟨by omega, by omega, by omega, fun m hm => ?_⟩
 have := h4 m hm
 unfold wideM at this
 simp only [Bool.not_eq_true, Bool.or_eq_false_iff, decide_eq_false_iff_not, List.any_eq_false, decide_eq_true_eq] at this
 exact ⟨by omega, fun r hr => by have := this.2 r hr; omega⟩
theorem great17_1 (xs : List Int) (u : Value) (w : World) (hu : RdI w u xs) :
  Calls Tryd.prog 46 (#[u] ++ #[]) w fun e w' => e = .returned (.bool (decide (16 < xs.length))) ∧ w = w' := by
 obtain ⟨A, c, rfl, h1, h2⟩ := hu.cell_
 clear hu
 generalize xs.length = n at *
 go_enter Tryd.func46, Tryd.ntmps46
 go_wp2
 go_ret
 refine ⟨?_, rfl⟩
 show Ending.returned (Value.bool _) = _
 congr 2
 rw [Bool.eq_iff_iff]; simp; omega
theorem any_getT {α : Type} {l : List α} {f : α → Bool} (d : α) {j : Nat} (hj : j < l.length) (h : f (l.getD j d) = true) : l.any f = true := by
 rw [List.any_eq_true]
 exact ⟨_, getD_mem l d hj, h⟩
theorem any_getF {α : Type} {l : List α} {f : α → Bool} (d : α) (h : ∀ j, j < l.length → f (l.getD j d) = false) : l.any f = false := by
 rw [← any_range f d l, List.any_eq_false]
 exact fun j hj => by rw [h j (List.mem_range.1 hj)]; decide
theorem great17_any (a : Aut) (s e t : Value) (w : World) (ra : RdA w s e t a) :
  Calls Tryd.prog 8 #[.agg #[.int .i64 a.letters, s, e, t]] w fun r w' => r = .returned (.bool (greatA a)) ∧ Below w.heap.size w w' := by
 obtain ⟨As, cs, rfl, -, -⟩ := ra.start.cell_
 obtain ⟨Ae, ce, rfl, -, -⟩ := ra.end_.cell_
 obtain ⟨At, ct, rfl, tl, tc, t3⟩ := RdS.open_ ([] : List (List Int)) ra.steps
 have hG : greatA a = (decide (16 < a.start.length) || decide (16 < a.end_.length) || decide (6 < a.steps.length) || a.steps.any wideM) := rfl
 obtain ⟨l, hl⟩ : ∃ l, a.letters = l := ⟨_, rfl⟩
 obtain ⟨M, hM⟩ : ∃ M, a.steps = M := ⟨_, rfl⟩
 rw [hM] at hG t3 tl tc ⊢
 rw [hl]
 clear ra hl hM
 generalize greatA a = R at *
 generalize a.start.length = n at *
 generalize a.end_.length = m at *
 obtain ⟨k, hk⟩ : ∃ k, M.length = k := ⟨_, rfl⟩
 have hT := Lib.hid (fun j (hj : j < k) (h : wideM (M.getD j []) = true) => any_getT (f := wideM) [] (show j < M.length by rw [hk]; exact hj) h)
 have hF := Lib.hid (fun (h : ∀ j, j < k → wideM (M.getD j []) = false) => any_getF (l := M) (f := wideM) [] (fun j hj => h j (by rw [← hk]; exact hj)))
 rw [hk] at hG t3 tl tc ⊢
 clear hk
 replace t3 := Lib.hid t3
 obtain ⟨hBX, x0, hz⟩ := box4 w (.int .i64 l) (.slice As n cs) (.slice Ae m ce) (.slice At k ct) 25
 obtain ⟨q0, q1, q2, q3⟩ := cells4 x0
 replace hBX := Lib.hid hBX
 clear x0 hz
 by_cases e1 : 16 < n
 ·have hr : Hid (R = true) := Lib.hid (by rw [hG]; simp [e1])
  have y1 : (16 : Int) < (n : Int) := by omega
  clear hG
  go_enter Tryd.func8, Tryd.ntmps8
  go_wp2
  go_ret
  exact ⟨by rw [hr.out]; rfl, hBX.out⟩
 have y1 : ¬ (16 : Int) < (n : Int) := by omega
 by_cases e2 : 16 < m
 ·have hr : Hid (R = true) := Lib.hid (by rw [hG]; simp [e2])
  have y2 : (16 : Int) < (m : Int) := by omega
  clear hG
  go_enter Tryd.func8, Tryd.ntmps8
  go_wp2
  go_ret
  exact ⟨by rw [hr.out]; rfl, hBX.out⟩
 have y2 : ¬ (16 : Int) < (m : Int) := by omega
 by_cases e3 : 6 < k
 ·have hr : Hid (R = true) := Lib.hid (by rw [hG]; simp [e3])
  have y3 : (6 : Int) < (k : Int) := by omega
  clear hG
  go_enter Tryd.func8, Tryd.ntmps8
  go_wp2
  go_ret
  exact ⟨by rw [hr.out]; rfl, hBX.out⟩
 have y3 : ¬ (6 : Int) < (k : Int) := by omega
 replace hG : Hid (R = M.any wideM) := Lib.hid (by rw [hG]; simp [e1, e2, e3])
 go_enter Tryd.func8, Tryd.ntmps8
 go_wp2_with fail
 generalize (w.alloc (.cells #[.int .i64 l, .slice As n cs, .slice Ae m ce, .slice At k ct] 25)) = X at *
 clear q0 q1 q2 q3
 go_loopw [4, 24] (fun _ i wr => ∃ q : Nat, q ≤ k ∧ i = .int .i64 q ∧ Hid (Below w.heap.size w wr) ∧ Hid (∀ j, j < q → wideM (M.getD j []) = false)) (fun _ i _ => k - (intOf i).toNat)
 case atStart => exact ⟨0, Nat.zero_le _, rfl, hBX, Lib.hid (fun j hj => by omega)⟩
 case round =>
  obtain ⟨q, hq, rfl, hB, hE⟩ := hrel
  by_cases hlt : q < k
  ·obtain ⟨bq, oq, v, rfl, hc, hv⟩ := t3.out q hlt
   replace hc := (hB.out.cell (p := ⟨bq, oq + q, none⟩) (World.block_lt_of_cell? w _ hc)).trans hc
   have hv' := hv
   obtain ⟨Am, cm, rfl, -, -, -⟩ := hv'.open_
   obtain ⟨vs, hvv, hvl, hvr⟩ := hv
   have hcf := ContainsFunc_row vs (fun j => decide (16 < ((M.getD q []).getD j []).length)) _ 46 #[] (enters_of Tryd.func46 (by kernel_rfl) rfl) wr (hvv.below hB.out (Nat.le_refl _)) (fun W j u hb hu =>
    (great17_1 _ u W ((row_of hvl hvr hu).below (hB.out.trans (hb.mono hB.out.size)) (Nat.le_refl _))).mono (fun e w' ⟨he, hw⟩ => ⟨he, hw ▸ hb⟩))
   rw [hvl, any_range (fun r : List Int => decide (16 < r.length))] at hcf
   have hw : wideM (M.getD q []) = (decide (16 < (M.getD q []).length) || (M.getD q []).any fun r => decide (16 < r.length)) := rfl
   replace hcf := Lib.hid hcf
   have hbad := Lib.hid (fun (h : wideM (M.getD q []) = true) => hG.out.trans (hT.out q hlt h))
   have hE2 := Lib.hid (fun (h : wideM (M.getD q []) = false) j (hj : j < q + 1) => show wideM (M.getD j []) = false by
    by_cases e : j = q
    ·rw [e]; exact h
    ·exact hE.out j (by omega))
   have z1 : (q : Int) < (k : Int) := by omega
   have z0 : (0 : Int) ≤ (q : Int) := by omega
   clear hv' hvv hvl hvr
   generalize ((M.getD q []).any fun r => decide (16 < r.length)) = d at *
   generalize (M.getD q []).length = mm at *
   generalize wideM (M.getD q []) = b at *
   by_cases em : 16 < mm
   ·have hr := Lib.hid (hbad.out (by rw [hw]; simp [em]))
    have z2 : (16 : Int) < (mm : Int) := by omega
    clear hw
    go_wp2
    go_ret
    exact ⟨by rw [hr.out]; rfl, hB.out⟩
   ·have z2 : ¬ (16 : Int) < (mm : Int) := by omega
    replace hw : Hid (b = d) := Lib.hid (by rw [hw]; simp [em])
    go_wp2_with fail
    refine hcf.out.mono ?_; rintro ev W2 ⟨rfl, hb⟩
    have hB2 := Lib.hid (Below.then_ hB.out hb)
    cases d with
    | true =>
     have hr := Lib.hid (hbad.out hw.out)
     go_wp2
     go_ret
     exact ⟨by rw [hr.out]; rfl, hB2.out⟩
    | false =>
     have hE3 := Lib.hid (hE2.out hw.out)
     go_wp2
     go_roundw
     case rel => exact ⟨q + 1, by omega, by go_num, hB2, hE3⟩
     case measure => simp [intOf]; omega
  ·obtain rfl : q = k := by omega
   have hr := Lib.hid (hG.out.trans (hF.out hE.out))
   go_wp2
   go_ret
   exact ⟨by rw [hr.out]; rfl, hB.out⟩
end Go.Proofs.YtlpldfocljnpnaaDoor
namespace Go.Proofs.YtlpldfocljnpnaaDoor
open Go.RowKit Go.Shelf
theorem fitM_len17 {l : List Int} {m : Nat} {r : Rule} (h : fitM l m = some r) : r.by_.length ≤ l.length ∧ r.start.length ≤ l.length := by
 have key : ∀ (os : List Nat), (∀ o ∈ os, o ≤ l.length) → fitL l os = some r → r.by_.length ≤ l.length ∧ r.start.length ≤ l.length := fun os => by
  induction os with
  | nil => intro _ h; cases h
  | cons o os ih =>
   intro ho h
   rw [fitL] at h
   cases e : fitO l o with
   | none => rw [e] at h; exact ih (fun q hq => ho q (List.mem_cons_of_mem _ hq)) h
   | some b =>
    rw [e] at h
    obtain rfl := Option.some.inj h
    rw [fitO, solvedM] at e
    split at e
    ·obtain rfl := Option.some.inj e
     exact ⟨by rw [fillX_length]; exact ho o List.mem_cons_self, by simp; omega⟩
    ·cases e
 exact key _ (fun o ho => by have := List.mem_range.1 ho; omega) h
theorem leastR_lens17 (l : List Int) : (leastR l).1.by_.length ≤ 1000 ∧ (leastR l).1.start.length ≤ 1000 := by
 unfold leastR
 split
 ·exact ⟨by simp, by simp⟩
 ·split
  ·exact ⟨by simp, by simp⟩
  ·split
   ·rename_i r hr
    have := fitM_len17 hr
    simp only []
    omega
   ·exact ⟨by simp, by simp⟩
theorem guardR_lens (a : Aut) {p : Rule × Int} (h : p.1.by_.length ≤ 1000 ∧ p.1.start.length ≤ 1000) : (guardR a p).1.by_.length ≤ 1000 ∧ (guardR a p).1.start.length ≤ 1000 := by
 unfold guardR
 split
 ·exact h
 ·exact ⟨Nat.zero_le _, Nat.zero_le _⟩
theorem lengthsP_lens (a : Aut) : (lengthsP a).1.by_.length ≤ 1000 ∧ (lengthsP a).1.start.length ≤ 1000 := guardR_lens a (leastR_lens17 _)
theorem ruleP_lens (a : Aut) : (ruleP a).1.by_.length ≤ 1000 ∧ (ruleP a).1.start.length ≤ 1000 := by
 refine guardR_lens a ?_
 split
 ·exact leastR_lens17 _
 ·exact ⟨Nat.zero_le _, Nat.zero_le _⟩
theorem RuleOut.form {r : Rule × Int} {w w' : World} {e : Ending} (h : RuleOut r w e w') (hl : r.1.by_.length ≤ 1000 ∧ r.1.start.length ≤ 1000) :
  ∃ A c B d, e = .returned (.tuple #[.agg #[.slice A r.1.by_.length c, .slice B r.1.start.length d], .int .i64 r.2]) ∧ RdI w' (.slice A r.1.by_.length c) r.1.by_ ∧ RdI w' (.slice B r.1.start.length d) r.1.start ∧ Below w.heap.size w w' := by
 obtain ⟨v, rfl, ⟨x, y, rfl, o1, o2⟩, hb⟩ := h
 obtain ⟨A, c, rfl⟩ := own_form o1
 obtain ⟨B, d, rfl⟩ := own_form o2
 exact ⟨A, c, B, d, rfl, OwnI.rd o1 (by omega), OwnI.rd o2 (by omega), hb⟩
theorem SeriesWeights_any (a : Aut) (s e t : Value) (ks : ByteArray) (w : World) (ra : RdA w s e t a) (_lo : -9223372036854775808 ≤ a.letters) (_hi : a.letters ≤ 9223372036854775807) (_hks : ks.size ≤ maxLen) (hJ : Ways w) :
  Calls Tryd.prog 4 #[.agg #[.int .i64 a.letters, s, e, t], .string ks] w fun r w' => r = .returned (.bool true) ∧ Below w.heap.size w w' := by
 obtain ⟨As, cs, rfl, -, -⟩ := ra.start.cell_
 obtain ⟨Ae, ce, rfl, -, -⟩ := ra.end_.cell_
 obtain ⟨At, ct, rfl, -, -⟩ := RdS.open_ ([] : List (List Int)) ra.steps
 have k2 := BoxA.new ra
 have hB : Below w.heap.size w (w.alloc (.cells #[.int .i64 a.letters, .slice As a.start.length cs, .slice Ae a.end_.length ce, .slice At a.steps.length ct] 25)) := (Below.refl _ _).alloc (Nat.le_refl _) _
 replace hJ := Lib.hid (hJ.product.below hB)
 have hsm := Lib.hid (@greatA_small a)
 replace k2 := Lib.hid k2.kp
 replace hB := Lib.hid hB
 have cW := Lib.hid (fun s e t W ra (h : ks.size ≤ 60) => Weight17_any a ks s e t W ra (by omega))
 have cV := Lib.hid (fun s e t W ra (h : ks.size ≤ 60) => WeightA_any a ks s e t W ra (by omega))
 have cL := Lib.hid (fun s e t W ra => (Lengths17_any a s e t W ra).mono fun _ _ h => h.form (lengthsP_lens a))
 have cM := Lib.hid (fun s e t W ra => (LengthsA_any a s e t W ra).mono fun _ _ h => h.form (lengthsP_lens a))
 have cR := Lib.hid (fun s e t W ra => (Rule17_any a s e t W ra).mono fun _ _ h => h.form (ruleP_lens a))
 have cQ := Lib.hid (fun s e t W ra => (RuleA_any a s e t W ra).mono fun _ _ h => h.form (ruleP_lens a))
 have cC := Lib.hid (fun s e t W ra => Check17_any a s e t W ra)
 have cD := Lib.hid (fun s e t W ra => CheckA_any a s e t W ra)
 have cE := Lib.hid (fun s e t s' e' t' W ra rb => aw17_equal a s e t s' e' t' W ra rb)
 have cG := Lib.hid (fun s e t W ra => great17_any a s e t W ra)
 have cO := Lib.hid (fun s e t W ra (h : greatA a = false) => Own17_any a s e t W ra (by have := greatA_small h; omega) (by have := greatA_small h; omega) (by have := greatA_small h; omega) (fun m hm => by
  obtain ⟨-, -, -, h4⟩ := greatA_small h
  obtain ⟨h5, h6⟩ := h4 m hm
  exact ⟨by omega, fun r hr => by have := h6 r hr; omega⟩))
 generalize weightP a ks = pw at *
 obtain ⟨wn, we⟩ := pw
 generalize lengthsP a = pl at *
 obtain ⟨lr, le⟩ := pl
 generalize ruleP a = pr at *
 obtain ⟨rr, re⟩ := pr
 generalize checkA a = ch at *
 generalize hgr : greatA a = gr at *
 simp only [] at cW cV cL cM cR cQ
 clear ra
 go_enter Tryd.func4, Tryd.ntmps4
 obtain ⟨q0, q1, q2, q3⟩ := cells4 k2.out.now.1
 go_wp2_with fail
 clear q0 q1 q2 q3
 generalize w.alloc (.cells #[.int .i64 a.letters, .slice As a.start.length cs, .slice Ae a.end_.length ce, .slice At a.steps.length ct] 25) = X at *
 refine (cG.out _ _ _ _ k2.out.now.2).mono ?_; rintro ev W1 ⟨rfl, hb⟩
 replace hB := Lib.hid (Below.then_ hB.out hb)
 replace k2 := Lib.hid (k2.out.next hb)
 replace hJ := Lib.hid (hJ.out.below hb)
 clear hb
 cases gr with
 | true =>
  go_wp2_with fail
  refine (awake17_any _ hJ.out).mono ?_; rintro ev W2 ⟨rfl, hb⟩
  go_wp2
  go_ret
  exact ⟨rfl, Below.then_ hB.out hb⟩
 | false =>
  by_cases h60 : 60 < ks.size
  ·have y60 : (60 : Int) < (ks.size : Int) := by omega
   go_wp2_with fail
   refine (awake17_any _ hJ.out).mono ?_; rintro ev W2 ⟨rfl, hb⟩
   go_wp2
   go_ret
   exact ⟨rfl, Below.then_ hB.out hb⟩
  have y60 : ¬ (60 : Int) < (ks.size : Int) := by omega
  have hgr' := Lib.hid hgr
  clear hgr
  obtain ⟨q0, q1, q2, q3⟩ := cells4 k2.out.now.1
  go_wp2_with fail
  refine (cO.out _ _ _ _ k2.out.now.2 (by first | exact hgr'.out | trivial)).mono ?_; rintro ev W2 ⟨s5, e5, t5, rfl, r5, hb⟩
  replace hB := Lib.hid (Below.then_ hB.out hb)
  replace k2 := Lib.hid (k2.out.next hb)
  replace hJ := Lib.hid (hJ.out.below hb)
  clear hb
  clear q0 q1 q2 q3
  obtain ⟨A5, c5, rfl, -, -⟩ := r5.start.cell_
  obtain ⟨B5, d5, rfl, -, -⟩ := r5.end_.cell_
  obtain ⟨C5, f5, rfl, -, -⟩ := RdS.open_ ([] : List (List Int)) r5.steps
  have k5 := BoxA.new r5
  have hb := (Below.refl W2.heap.size W2).alloc (Nat.le_refl _) (.cells #[.int .i64 a.letters, .slice A5 a.start.length c5, .slice B5 a.end_.length d5, .slice C5 a.steps.length f5] 25)
  obtain ⟨q0, q1, q2, q3⟩ := cells4 (k2.out _ hb).1
  replace hb := Lib.hid hb
  go_wp2_with fail
  clear q0 q1 q2 q3
  generalize W2.alloc (.cells #[.int .i64 a.letters, .slice A5 a.start.length c5, .slice B5 a.end_.length d5, .slice C5 a.steps.length f5] 25) = X3 at *
  replace hb := hb.out
  replace k5 := Lib.hid k5.kp
  clear r5
  replace hB := Lib.hid (Below.then_ hB.out hb)
  replace k2 := Lib.hid (k2.out.next hb)
  replace hJ := Lib.hid (hJ.out.below hb)
  clear hb
  refine (cW.out _ _ _ _ k2.out.now.2 (by omega)).mono ?_; rintro ev W4 ⟨rfl, hb⟩
  replace hB := Lib.hid (Below.then_ hB.out hb)
  replace k2 := Lib.hid (k2.out.next hb)
  replace k5 := Lib.hid (k5.out.next hb)
  replace hJ := Lib.hid (hJ.out.below hb)
  clear hb
  obtain ⟨q0, q1, q2, q3⟩ := cells4 k2.out.now.1
  go_wp2_with fail
  refine (cL.out _ _ _ _ k2.out.now.2).mono ?_; rintro ev W5 ⟨A5, c5, B5, d5, rfl, r1, r2, hb⟩
  replace hB := Lib.hid (Below.then_ hB.out hb)
  replace k2 := Lib.hid (k2.out.next hb)
  replace k5 := Lib.hid (k5.out.next hb)
  replace hJ := Lib.hid (hJ.out.below hb)
  clear hb
  clear q0 q1 q2 q3
  have k8 := BoxR.new r1 r2
  have hb := (Below.refl W5.heap.size W5).alloc (Nat.le_refl _) (.cells #[.slice A5 lr.by_.length c5, .slice B5 lr.start.length d5] 41)
  obtain ⟨q0, q1, q2, q3⟩ := cells4 (k2.out _ hb).1
  replace hb := Lib.hid hb
  go_wp2_with fail
  clear q0 q1 q2 q3
  generalize W5.alloc (.cells #[.slice A5 lr.by_.length c5, .slice B5 lr.start.length d5] 41) = X6 at *
  replace hb := hb.out
  replace k8 := Lib.hid k8.kp
  clear r1 r2
  replace hB := Lib.hid (Below.then_ hB.out hb)
  replace k2 := Lib.hid (k2.out.next hb)
  replace k5 := Lib.hid (k5.out.next hb)
  replace hJ := Lib.hid (hJ.out.below hb)
  clear hb
  refine (cR.out _ _ _ _ k2.out.now.2).mono ?_; rintro ev W7 ⟨A7, c7, B7, d7, rfl, r1, r2, hb⟩
  replace hB := Lib.hid (Below.then_ hB.out hb)
  replace k2 := Lib.hid (k2.out.next hb)
  replace k5 := Lib.hid (k5.out.next hb)
  replace k8 := Lib.hid (k8.out.next hb)
  replace hJ := Lib.hid (hJ.out.below hb)
  clear hb
  have k10 := BoxR.new r1 r2
  have hb := (Below.refl W7.heap.size W7).alloc (Nat.le_refl _) (.cells #[.slice A7 rr.by_.length c7, .slice B7 rr.start.length d7] 41)
  obtain ⟨q0, q1, q2, q3⟩ := cells4 (k5.out _ hb).1
  replace hb := Lib.hid hb
  go_wp2_with fail
  clear q0 q1 q2 q3
  generalize W7.alloc (.cells #[.slice A7 rr.by_.length c7, .slice B7 rr.start.length d7] 41) = X8 at *
  replace hb := hb.out
  replace k10 := Lib.hid k10.kp
  clear r1 r2
  replace hB := Lib.hid (Below.then_ hB.out hb)
  replace k2 := Lib.hid (k2.out.next hb)
  replace k5 := Lib.hid (k5.out.next hb)
  replace k8 := Lib.hid (k8.out.next hb)
  replace hJ := Lib.hid (hJ.out.below hb)
  clear hb
  refine (cV.out _ _ _ _ k5.out.now.2 (by omega)).mono ?_; rintro ev W9 ⟨rfl, hb⟩
  replace hB := Lib.hid (Below.then_ hB.out hb)
  replace k2 := Lib.hid (k2.out.next hb)
  replace k5 := Lib.hid (k5.out.next hb)
  replace k8 := Lib.hid (k8.out.next hb)
  replace k10 := Lib.hid (k10.out.next hb)
  replace hJ := Lib.hid (hJ.out.below hb)
  clear hb
  obtain ⟨q0, q1, q2, q3⟩ := cells4 k5.out.now.1
  go_wp2_with fail
  refine (cM.out _ _ _ _ k5.out.now.2).mono ?_; rintro ev W10 ⟨A10, c10, B10, d10, rfl, r1, r2, hb⟩
  replace hB := Lib.hid (Below.then_ hB.out hb)
  replace k2 := Lib.hid (k2.out.next hb)
  replace k5 := Lib.hid (k5.out.next hb)
  replace k8 := Lib.hid (k8.out.next hb)
  replace k10 := Lib.hid (k10.out.next hb)
  replace hJ := Lib.hid (hJ.out.below hb)
  clear hb
  clear q0 q1 q2 q3
  have k14 := BoxR.new r1 r2
  have hb := (Below.refl W10.heap.size W10).alloc (Nat.le_refl _) (.cells #[.slice A10 lr.by_.length c10, .slice B10 lr.start.length d10] 41)
  obtain ⟨q0, q1, q2, q3⟩ := cells4 (k5.out _ hb).1
  replace hb := Lib.hid hb
  go_wp2_with fail
  clear q0 q1 q2 q3
  generalize W10.alloc (.cells #[.slice A10 lr.by_.length c10, .slice B10 lr.start.length d10] 41) = X11 at *
  replace hb := hb.out
  replace k14 := Lib.hid k14.kp
  clear r1 r2
  replace hB := Lib.hid (Below.then_ hB.out hb)
  replace k2 := Lib.hid (k2.out.next hb)
  replace k5 := Lib.hid (k5.out.next hb)
  replace k8 := Lib.hid (k8.out.next hb)
  replace k10 := Lib.hid (k10.out.next hb)
  replace hJ := Lib.hid (hJ.out.below hb)
  clear hb
  refine (cQ.out _ _ _ _ k5.out.now.2).mono ?_; rintro ev W12 ⟨A12, c12, B12, d12, rfl, r1, r2, hb⟩
  replace hB := Lib.hid (Below.then_ hB.out hb)
  replace k2 := Lib.hid (k2.out.next hb)
  replace k5 := Lib.hid (k5.out.next hb)
  replace k8 := Lib.hid (k8.out.next hb)
  replace k10 := Lib.hid (k10.out.next hb)
  replace k14 := Lib.hid (k14.out.next hb)
  replace hJ := Lib.hid (hJ.out.below hb)
  clear hb
  have k16 := BoxR.new r1 r2
  have hb := (Below.refl W12.heap.size W12).alloc (Nat.le_refl _) (.cells #[.slice A12 rr.by_.length c12, .slice B12 rr.start.length d12] 41)
  replace hb := Lib.hid hb
  go_upto_region 10 with fail
  generalize W12.alloc (.cells #[.slice A12 rr.by_.length c12, .slice B12 rr.start.length d12] 41) = V at *
  replace hb := hb.out
  replace k16 := Lib.hid k16.kp
  clear r1 r2
  replace hB := Lib.hid (Below.then_ hB.out hb)
  replace k2 := Lib.hid (k2.out.next hb)
  replace k5 := Lib.hid (k5.out.next hb)
  replace k8 := Lib.hid (k8.out.next hb)
  replace k10 := Lib.hid (k10.out.next hb)
  replace k14 := Lib.hid (k14.out.next hb)
  replace hJ := Lib.hid (hJ.out.below hb)
  clear hb
  have cK := Lib.hid (fun W (hW : Below V.heap.size V W) => (⟨k2.out W hW, k5.out W hW, k8.out W hW, k10.out W hW, k14.out W hW, k16.out W hW⟩ : _ ∧ _ ∧ _ ∧ _ ∧ _ ∧ _))
  clear k2 k5 k8 k10 k14 k16
  have hb6 : Hid (Below V.heap.size V V) := Lib.hid (Below.refl _ _)
  refine D_begin (fun W => Below V.heap.size V W) (fun _ => True) 99 (by kernel_rfl) ?_
  change wpAnyD _ _ _ _ _ _ _ _ _ _ V.drew
  simp only [List.size_toArray, List.length_cons, List.length_nil, Nat.reduceAdd, Array.replicate_succ, Array.replicate_zero, List.push_toArray, List.append_toArray, List.nil_append, List.cons_append]
  have hD18 : Below V.heap.size V V.drew := (Below.refl _ _).drew
  replace hb6 := Lib.hid (Below.then_ hb6.out hD18)
  have z_D18 := hD18.size; clear hD18
  generalize V.drew = D18 at *
  refine Dt 0 rfl ?_ hb6.out (fun _ => trivial) ?_ ?_
  rotate_left; · intro w1 hw1; obtain ⟨a2, a5, a8, a10, a14, a16⟩ := cK.out w1 hw1; obtain ⟨u0, u1, u2, u3⟩ := cells4 a2.1; obtain ⟨v0, v1, v2, v3⟩ := cells4 a5.1; obtain ⟨x0, x1⟩ := cells2 a8.1; obtain ⟨y0, y1⟩ := cells2 a10.1; obtain ⟨z0, z1⟩ := cells2 a14.1; obtain ⟨t0, t1⟩ := cells2 a16.1; go_simp; try with_reducible rfl
  try simp only [Act.put, s_1, s_2, s_3, s_4, s_5, s_6]
  refine Dt 2 rfl ?_ hb6.out (fun _ => trivial) ?_ ?_
  rotate_left; · intro w1 hw1; obtain ⟨a2, a5, a8, a10, a14, a16⟩ := cK.out w1 hw1; obtain ⟨u0, u1, u2, u3⟩ := cells4 a2.1; obtain ⟨v0, v1, v2, v3⟩ := cells4 a5.1; obtain ⟨x0, x1⟩ := cells2 a8.1; obtain ⟨y0, y1⟩ := cells2 a10.1; obtain ⟨z0, z1⟩ := cells2 a14.1; obtain ⟨t0, t1⟩ := cells2 a16.1; go_simp; try with_reducible rfl
  try simp only [Act.put, s_1, s_2, s_3, s_4, s_5, s_6]
  refine D_one (i := 1) (by kernel_rfl) rfl ?_
  intro K hK
  rw [if_pos (by rfl)]
  go_wp2_with fail
  refine (cD.out _ _ _ D18 (cK.out _ hb6.out).2.1.2).mono ?_; rintro e D18_1 ⟨rfl, hE1⟩
  replace hb6 := Lib.hid (Below.then_ hb6.out hE1)
  have z_1 := hE1.size; clear hE1
  refine hK _ _ hb6.out (fun _ _ => trivial) ?_
  clear hK K
  try simp only [Act.put, s_1, s_2, s_3, s_4, s_5, s_6]
  refine D_one (i := 3) (by kernel_rfl) rfl ?_
  intro K hK
  rw [if_pos (by rfl)]
  go_wp2_with fail
  refine (cC.out _ _ _ D18_1 (cK.out _ hb6.out).1.2).mono ?_; rintro e D18_2 ⟨rfl, hE2⟩
  replace hb6 := Lib.hid (Below.then_ hb6.out hE2)
  have z_2 := hE2.size; clear hE2
  refine hK _ _ hb6.out (fun _ _ => trivial) ?_
  clear hK K
  try simp only [Act.put, s_1, s_2, s_3, s_4, s_5, s_6]
  refine Dt 4 rfl ?_ hb6.out (fun _ => trivial) ?_ ?_
  rotate_left; · intro w1 hw1; go_simp; try with_reducible rfl
  try simp only [Act.put, s_1, s_2, s_3, s_4, s_5, s_6]
  refine Dt 5 rfl ?_ hb6.out (fun _ => trivial) ?_ ?_
  rotate_left; · intro w1 hw1; go_simp; try with_reducible rfl
  try simp only [Act.put, s_1, s_2, s_3, s_4, s_5, s_6]
  refine Dt 6 rfl ?_ hb6.out (fun _ => trivial) ?_ ?_
  rotate_left; · intro w1 hw1; go_simp; try with_reducible rfl
  try simp only [Act.put, s_1, s_2, s_3, s_4, s_5, s_6]
  refine Dt 7 rfl ?_ hb6.out (fun _ => trivial) ?_ ?_
  rotate_left; · intro w1 hw1; go_simp; try with_reducible rfl
  try simp only [Act.put, s_1, s_2, s_3, s_4, s_5, s_6]
  refine Dt 8 rfl ?_ hb6.out (fun _ => trivial) ?_ ?_
  rotate_left; · intro w1 hw1; go_simp; try with_reducible rfl
  try simp only [Act.put, s_1, s_2, s_3, s_4, s_5, s_6]
  refine Dt 9 rfl ?_ hb6.out (fun _ => trivial) ?_ ?_
  rotate_left; · intro w1 hw1; go_simp; try with_reducible rfl
  try simp only [Act.put, s_1, s_2, s_3, s_4, s_5, s_6]
  refine Dt 10 rfl ?_ hb6.out (fun _ => trivial) ?_ ?_
  rotate_left; · intro w1 hw1; go_simp; try with_reducible rfl
  try simp only [Act.put, s_1, s_2, s_3, s_4, s_5, s_6]
  refine Dt 11 rfl ?_ hb6.out (fun _ => trivial) ?_ ?_
  rotate_left; · intro w1 hw1; go_simp; try with_reducible rfl
  try simp only [Act.put, s_1, s_2, s_3, s_4, s_5, s_6]
  refine Dt 12 rfl ?_ hb6.out (fun _ => trivial) ?_ ?_
  rotate_left; · intro w1 hw1; go_simp; try with_reducible rfl
  try simp only [Act.put, s_1, s_2, s_3, s_4, s_5, s_6]
  refine Dt 13 rfl ?_ hb6.out (fun _ => trivial) ?_ ?_
  rotate_left; · intro w1 hw1; go_simp; try with_reducible rfl
  try simp only [Act.put, s_1, s_2, s_3, s_4, s_5, s_6]
  refine Dt 14 rfl ?_ hb6.out (fun _ => trivial) ?_ ?_
  rotate_left; · intro w1 hw1; go_simp; try with_reducible rfl
  try simp only [Act.put, s_1, s_2, s_3, s_4, s_5, s_6]
  refine Dt 15 rfl ?_ hb6.out (fun _ => trivial) ?_ ?_
  rotate_left; · intro w1 hw1; go_simp; try with_reducible rfl
  try simp only [Act.put, s_1, s_2, s_3, s_4, s_5, s_6]
  refine Dt 16 rfl ?_ hb6.out (fun _ => trivial) ?_ ?_
  rotate_left; · intro w1 hw1; obtain ⟨a2, a5, a8, a10, a14, a16⟩ := cK.out w1 hw1; obtain ⟨u0, u1, u2, u3⟩ := cells4 a2.1; obtain ⟨v0, v1, v2, v3⟩ := cells4 a5.1; obtain ⟨x0, x1⟩ := cells2 a8.1; obtain ⟨y0, y1⟩ := cells2 a10.1; obtain ⟨z0, z1⟩ := cells2 a14.1; obtain ⟨t0, t1⟩ := cells2 a16.1; go_simp; try with_reducible rfl
  try simp only [Act.put, s_1, s_2, s_3, s_4, s_5, s_6]
  refine Dt 17 rfl ?_ hb6.out (fun _ => trivial) ?_ ?_
  rotate_left; · intro w1 hw1; obtain ⟨a2, a5, a8, a10, a14, a16⟩ := cK.out w1 hw1; obtain ⟨u0, u1, u2, u3⟩ := cells4 a2.1; obtain ⟨v0, v1, v2, v3⟩ := cells4 a5.1; obtain ⟨x0, x1⟩ := cells2 a8.1; obtain ⟨y0, y1⟩ := cells2 a10.1; obtain ⟨z0, z1⟩ := cells2 a14.1; obtain ⟨t0, t1⟩ := cells2 a16.1; go_simp; try with_reducible rfl
  try simp only [Act.put, s_1, s_2, s_3, s_4, s_5, s_6]
  refine D_one (i := 18) (by kernel_rfl) rfl ?_
  intro K hK
  rw [if_pos (by rfl)]
  go_wp2_with fail
  refine (aw17_same _ _ D18_2 lr ⟨_, _, rfl, (cK.out _ hb6.out).2.2.2.2.1.2.1, (cK.out _ hb6.out).2.2.2.2.1.2.2⟩ ⟨_, _, rfl, (cK.out _ hb6.out).2.2.1.2.1, (cK.out _ hb6.out).2.2.1.2.2⟩).mono ?_; rintro e D18_3 ⟨rfl, hE3⟩
  replace hb6 := Lib.hid (Below.then_ hb6.out hE3)
  have z_3 := hE3.size; clear hE3
  refine hK _ _ hb6.out (fun _ _ => trivial) ?_
  clear hK K
  try simp only [Act.put, s_1, s_2, s_3, s_4, s_5, s_6]
  refine Dt 19 rfl ?_ hb6.out (fun _ => trivial) ?_ ?_
  rotate_left; · intro w1 hw1; go_simp; try with_reducible rfl
  try simp only [Act.put, s_1, s_2, s_3, s_4, s_5, s_6]
  refine Dt 20 rfl ?_ hb6.out (fun _ => trivial) ?_ ?_
  rotate_left; · intro w1 hw1; go_simp; try with_reducible rfl
  try simp only [Act.put, s_1, s_2, s_3, s_4, s_5, s_6]
  refine Dt 21 rfl ?_ hb6.out (fun _ => trivial) ?_ ?_
  rotate_left; · intro w1 hw1; go_simp; try with_reducible rfl
  try simp only [Act.put, s_1, s_2, s_3, s_4, s_5, s_6]
  refine Dt 22 rfl ?_ hb6.out (fun _ => trivial) ?_ ?_
  rotate_left; · intro w1 hw1; go_simp; try with_reducible rfl
  try simp only [Act.put, s_1, s_2, s_3, s_4, s_5, s_6]
  refine Dt 23 rfl ?_ hb6.out (fun _ => trivial) ?_ ?_
  rotate_left; · intro w1 hw1; go_simp; try with_reducible rfl
  try simp only [Act.put, s_1, s_2, s_3, s_4, s_5, s_6]
  refine Dt 24 rfl ?_ hb6.out (fun _ => trivial) ?_ ?_
  rotate_left; · intro w1 hw1; go_simp; try with_reducible rfl
  try simp only [Act.put, s_1, s_2, s_3, s_4, s_5, s_6]
  refine Dt 25 rfl ?_ hb6.out (fun _ => trivial) ?_ ?_
  rotate_left; · intro w1 hw1; go_simp; try with_reducible rfl
  try simp only [Act.put, s_1, s_2, s_3, s_4, s_5, s_6]
  refine Dt 26 rfl ?_ hb6.out (fun _ => trivial) ?_ ?_
  rotate_left; · intro w1 hw1; obtain ⟨a2, a5, a8, a10, a14, a16⟩ := cK.out w1 hw1; obtain ⟨u0, u1, u2, u3⟩ := cells4 a2.1; obtain ⟨v0, v1, v2, v3⟩ := cells4 a5.1; obtain ⟨x0, x1⟩ := cells2 a8.1; obtain ⟨y0, y1⟩ := cells2 a10.1; obtain ⟨z0, z1⟩ := cells2 a14.1; obtain ⟨t0, t1⟩ := cells2 a16.1; go_simp; try with_reducible rfl
  try simp only [Act.put, s_1, s_2, s_3, s_4, s_5, s_6]
  refine Dt 27 rfl ?_ hb6.out (fun _ => trivial) ?_ ?_
  rotate_left; · intro w1 hw1; obtain ⟨a2, a5, a8, a10, a14, a16⟩ := cK.out w1 hw1; obtain ⟨u0, u1, u2, u3⟩ := cells4 a2.1; obtain ⟨v0, v1, v2, v3⟩ := cells4 a5.1; obtain ⟨x0, x1⟩ := cells2 a8.1; obtain ⟨y0, y1⟩ := cells2 a10.1; obtain ⟨z0, z1⟩ := cells2 a14.1; obtain ⟨t0, t1⟩ := cells2 a16.1; go_simp; try with_reducible rfl
  try simp only [Act.put, s_1, s_2, s_3, s_4, s_5, s_6]
  refine D_one (i := 28) (by kernel_rfl) rfl ?_
  intro K hK
  rw [if_pos (by rfl)]
  go_wp2_with fail
  refine (aw17_same _ _ D18_3 rr ⟨_, _, rfl, (cK.out _ hb6.out).2.2.2.2.2.2.1, (cK.out _ hb6.out).2.2.2.2.2.2.2⟩ ⟨_, _, rfl, (cK.out _ hb6.out).2.2.2.1.2.1, (cK.out _ hb6.out).2.2.2.1.2.2⟩).mono ?_; rintro e D18_4 ⟨rfl, hE4⟩
  replace hb6 := Lib.hid (Below.then_ hb6.out hE4)
  have z_4 := hE4.size; clear hE4
  refine hK _ _ hb6.out (fun _ _ => trivial) ?_
  clear hK K
  try simp only [Act.put, s_1, s_2, s_3, s_4, s_5, s_6]
  refine Dt 29 rfl ?_ hb6.out (fun _ => trivial) ?_ ?_
  rotate_left; · intro w1 hw1; go_simp; try with_reducible rfl
  try simp only [Act.put, s_1, s_2, s_3, s_4, s_5, s_6]
  refine Dt 30 rfl ?_ hb6.out (fun _ => trivial) ?_ ?_
  rotate_left; · intro w1 hw1; go_simp; try with_reducible rfl
  try simp only [Act.put, s_1, s_2, s_3, s_4, s_5, s_6]
  refine Dt 31 rfl ?_ hb6.out (fun _ => trivial) ?_ ?_
  rotate_left; · intro w1 hw1; go_simp; try with_reducible rfl
  try simp only [Act.put, s_1, s_2, s_3, s_4, s_5, s_6]
  refine Dt 32 rfl ?_ hb6.out (fun _ => trivial) ?_ ?_
  rotate_left; · intro w1 hw1; go_simp; try with_reducible rfl
  try simp only [Act.put, s_1, s_2, s_3, s_4, s_5, s_6]
  refine Dt 33 rfl ?_ hb6.out (fun _ => trivial) ?_ ?_
  rotate_left; · intro w1 hw1; go_simp; try with_reducible rfl
  try simp only [Act.put, s_1, s_2, s_3, s_4, s_5, s_6]
  refine Dt 34 rfl ?_ hb6.out (fun _ => trivial) ?_ ?_
  rotate_left; · intro w1 hw1; go_simp; try with_reducible rfl
  try simp only [Act.put, s_1, s_2, s_3, s_4, s_5, s_6]
  refine Dt 35 rfl ?_ hb6.out (fun _ => trivial) ?_ ?_
  rotate_left; · intro w1 hw1; go_simp; try with_reducible rfl
  try simp only [Act.put, s_1, s_2, s_3, s_4, s_5, s_6]
  refine Dt 36 rfl ?_ hb6.out (fun _ => trivial) ?_ ?_
  rotate_left; · intro w1 hw1; obtain ⟨a2, a5, a8, a10, a14, a16⟩ := cK.out w1 hw1; obtain ⟨u0, u1, u2, u3⟩ := cells4 a2.1; obtain ⟨v0, v1, v2, v3⟩ := cells4 a5.1; obtain ⟨x0, x1⟩ := cells2 a8.1; obtain ⟨y0, y1⟩ := cells2 a10.1; obtain ⟨z0, z1⟩ := cells2 a14.1; obtain ⟨t0, t1⟩ := cells2 a16.1; go_simp; try with_reducible rfl
  try simp only [Act.put, s_1, s_2, s_3, s_4, s_5, s_6]
  refine Dt 37 rfl ?_ hb6.out (fun _ => trivial) ?_ ?_
  rotate_left; · intro w1 hw1; obtain ⟨a2, a5, a8, a10, a14, a16⟩ := cK.out w1 hw1; obtain ⟨u0, u1, u2, u3⟩ := cells4 a2.1; obtain ⟨v0, v1, v2, v3⟩ := cells4 a5.1; obtain ⟨x0, x1⟩ := cells2 a8.1; obtain ⟨y0, y1⟩ := cells2 a10.1; obtain ⟨z0, z1⟩ := cells2 a14.1; obtain ⟨t0, t1⟩ := cells2 a16.1; go_simp; try with_reducible rfl
  try simp only [Act.put, s_1, s_2, s_3, s_4, s_5, s_6]
  refine D_one (i := 38) (by kernel_rfl) rfl ?_
  intro K hK
  rw [if_pos (by rfl)]
  go_wp2_with fail
  refine (cE.out _ _ _ _ _ _ D18_4 (cK.out _ hb6.out).2.1.2 (cK.out _ hb6.out).1.2).mono ?_; rintro e D18_5 ⟨rfl, hE5⟩
  replace hb6 := Lib.hid (Below.then_ hb6.out hE5)
  have z_5 := hE5.size; clear hE5
  refine hK _ _ hb6.out (fun _ _ => trivial) ?_
  clear hK K
  try simp only [Act.put, s_1, s_2, s_3, s_4, s_5, s_6]
  refine Dt 39 rfl ?_ hb6.out (fun _ => trivial) ?_ ?_
  rotate_left; · intro w1 hw1; go_simp; try with_reducible rfl
  try simp only [Act.put, s_1, s_2, s_3, s_4, s_5, s_6]
  refine Dt 40 rfl ?_ hb6.out (fun _ => trivial) ?_ ?_
  rotate_left; · intro w1 hw1; go_simp; try with_reducible rfl
  try simp only [Act.put, s_1, s_2, s_3, s_4, s_5, s_6]
  refine D_one (i := 41) (by kernel_rfl) rfl ?_
  intro K hK
  rw [if_pos (by rfl)]
  go_wp2_with fail
  refine (awake17_any D18_5 (hJ.out.below hb6.out)).mono ?_; rintro e D18_6 ⟨rfl, hE6⟩
  replace hb6 := Lib.hid (Below.then_ hb6.out hE6)
  have z_6 := hE6.size; clear hE6
  refine hK _ _ hb6.out (fun _ _ => trivial) ?_
  clear hK K
  try simp only [Act.put, s_1, s_2, s_3, s_4, s_5, s_6]
  refine Dt 42 rfl ?_ hb6.out (fun _ => trivial) ?_ ?_
  rotate_left; · intro w1 hw1; go_simp; try with_reducible rfl
  try simp only [Act.put, s_1, s_2, s_3, s_4, s_5, s_6]
  refine D_one (i := 43) (by kernel_rfl) rfl ?_
  intro K hK
  rw [if_pos (by rfl)]
  go_simp
  refine hK _ _ hb6.out (fun _ _ => trivial) ?_
  clear hK K
  try simp only [Act.put, s_1, s_2, s_3, s_4, s_5, s_6]
  refine D_done (by kernel_rfl) ?_ _
  go_wp2
  go_ret
  exact ⟨rfl, Below.then_ hB.out hb6.out⟩
end Go.Proofs.YtlpldfocljnpnaaDoor
