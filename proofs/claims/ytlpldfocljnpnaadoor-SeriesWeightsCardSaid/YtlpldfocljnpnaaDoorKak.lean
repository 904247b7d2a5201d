/- Layer 17 Layer 17 The builtin copy over a list of the call's own. Layer 17 Layer 17 Layer 17 What the condition on the table of ways gives the walks The heap that the door's own run leaves meets the condition on the table of ways. Layer 17 Layer 17 -/
import Derived.Test.YtlpldfocljnpnaaDoorKaj
import Derived.Test.YtlpldfocljnpnaaDoorKab
import Derived.Test.YtlpldfocljnpnaaDoorKac
import Derived.Test.YtlpldfocljnpnaaDoorKad
import Derived.Laws.IdiomCopy
import Derived.Lib.SliceRun
import Derived.Test.YtlpldfocljnpnaaDoorRows
import Derived.ProofKit
import Derived.LaidMore
import Derived.LaidOnce
import Derived.OpenShut
import Derived.Stop.Joined
import Derived.WideKeyElems2
import Derived.Below
import Derived.ChangeSame
import Derived.Test.YtlpldfocljnpnaaDoorTie
import Derived.SevenTiedAt
import Derived.Test.YtlpldfocljnpnaaDoorKae
import Derived.Deep.Matrix
import Derived.Carry
import Derived.SizedLaws
import Derived.Lib.SmallJoins
import Derived.ChangeMaps5
import Derived.Laws.StructEq
set_option maxRecDepth 100000
set_option maxHeartbeats 6400000
set_option linter.unusedSimpArgs false
namespace Go.Proofs.YtlpldfocljnpnaaDoor
open Go.RowKit Go.Shelf
def bothA (a b : Aut) : Int := if checkA a = 0 then (if checkA b = 0 then (if a.letters = b.letters then 0 else 7) else checkA b) else checkA a
theorem bothA_ok {a b : Aut} (h : bothA a b = 0) : checkA a = 0 ∧ checkA b = 0 ∧ a.letters = b.letters := by
 unfold bothA at h
 split at h
 ·split at h
  ·split at h
   ·exact ⟨by assumption, by assumption, by assumption⟩
   ·exact absurd h (by decide)
  ·exact absurd h (by assumption)
 ·exact absurd h (by assumption)
theorem cells8 {W : World} {g : Nat} {a b c d e f p q : Value} {T : TypeId} {fr : Nat × Nat} (h : W.heap[g]? = some (.cells #[a, b, c, d, e, f, p, q] T fr)) : W.cell? ⟨g, 0, none⟩ = some a ∧ W.cell? ⟨g, 1, none⟩ = some b ∧ W.cell? ⟨g, 2, none⟩ = some c ∧ W.cell? ⟨g, 3, none⟩ = some d ∧ W.cell? ⟨g, 4, none⟩ = some e ∧ W.cell? ⟨g, 5, none⟩ = some f ∧ W.cell? ⟨g, 6, none⟩ = some p ∧ W.cell? ⟨g, 7, none⟩ = some q := by
 unfold World.cell?; rw [h]; exact ⟨rfl, rfl, rfl, rfl, rfl, rfl, rfl, rfl⟩
theorem both_any17 (a b : Aut) (sa ea ta sb eb tb : Value) (w : World) (ra : RdA w sa ea ta a) (rb : RdA w sb eb tb b) :
  Calls Tryd.prog 78 #[.agg #[.int .i64 a.letters, sa, ea, ta], .agg #[.int .i64 b.letters, sb, eb, tb]] w fun r w' => r = .returned (.int .i64 (bothA a b)) ∧ Below w.heap.size w w' := by
 obtain ⟨As, cs, rfl, -, -⟩ := ra.start.cell_
 obtain ⟨Ae, ce, rfl, -, -⟩ := ra.end_.cell_
 obtain ⟨At, ct, rfl, -, -⟩ := RdS.open_ ([] : List (List Int)) ra.steps
 obtain ⟨Bs, dS, rfl, -, -⟩ := rb.start.cell_
 obtain ⟨Be, dE, rfl, -, -⟩ := rb.end_.cell_
 obtain ⟨Bt, dT, rfl, -, -⟩ := RdS.open_ ([] : List (List Int)) rb.steps
 have hc1 := Lib.hid (fun W (hW : Below w.heap.size w W) => CheckA_any a _ _ _ W (ra.below hW (Nat.le_refl _)))
 have hc2 := Lib.hid (fun W (hW : Below w.heap.size w W) => CheckA_any b _ _ _ W (rb.below hW (Nat.le_refl _)))
 have hE : Hid (bothA a b = if checkA a = 0 then (if checkA b = 0 then (if a.letters = b.letters then 0 else 7) else checkA b) else checkA a) := Lib.hid rfl
 clear ra rb
 generalize bothA a b = R at *
 generalize checkA a = e1 at *
 generalize checkA b = e2 at *
 generalize a.letters = l1 at *
 generalize b.letters = l2 at *
 generalize a.start.length = n1 at *
 generalize a.end_.length = n2 at *
 generalize a.steps.length = n3 at *
 generalize b.start.length = m1 at *
 generalize b.end_.length = m2 at *
 generalize b.steps.length = m3 at *
 obtain ⟨x0, x1, x2⟩ := three1 w (.cells #[.int .i64 l1, .slice As n1 cs, .slice Ae n2 ce, .slice At n3 ct] 25) (.cells #[.int .i64 l2, .slice Bs m1 dS, .slice Be m2 dE, .slice Bt m3 dT] 25) (.cells #[.int .i64 l1, .slice As n1 cs, .slice Ae n2 ce, .slice At n3 ct, .int .i64 l2, .slice Bs m1 dS, .slice Be m2 dE, .slice Bt m3 dT] 25)
 have hBX : Below w.heap.size w (((w.alloc (.cells #[.int .i64 l1, .slice As n1 cs, .slice Ae n2 ce, .slice At n3 ct] 25)).alloc (.cells #[.int .i64 l2, .slice Bs m1 dS, .slice Be m2 dE, .slice Bt m3 dT] 25)).alloc (.cells #[.int .i64 l1, .slice As n1 cs, .slice Ae n2 ce, .slice At n3 ct, .int .i64 l2, .slice Bs m1 dS, .slice Be m2 dE, .slice Bt m3 dT] 25)) := (((Below.refl _ w).alloc (Nat.le_refl _) _).alloc (by simp) _).alloc (by simp; omega) _
 obtain ⟨q0, q1, q2, q3⟩ := cells4 x0
 obtain ⟨p0, p1, p2, p3⟩ := cells4 (((Below.refl _ _).alloc (Nat.le_refl _) _).block (w.heap.size + 1) (by simp) |>.symm.trans x1)
 go_enter Tryd.func78, Tryd.ntmps78
 go_wp2_with fail
 generalize (((w.alloc (.cells #[.int .i64 l1, .slice As n1 cs, .slice Ae n2 ce, .slice At n3 ct] 25)).alloc (.cells #[.int .i64 l2, .slice Bs m1 dS, .slice Be m2 dE, .slice Bt m3 dT] 25)).alloc (.cells #[.int .i64 l1, .slice As n1 cs, .slice Ae n2 ce, .slice At n3 ct, .int .i64 l2, .slice Bs m1 dS, .slice Be m2 dE, .slice Bt m3 dT] 25)) = X at *
 have hzX := hBX.size
 have hb0 : Hid (Below X.heap.size X X) := Lib.hid (Below.refl _ _)
 replace hBX := Lib.hid hBX
 replace x2 := Lib.hid x2
 have x0' := Lib.hid x0
 have x1' := Lib.hid x1
 have hzl := lt_of_block x2.out
 clear x0 x1 q0 q1 q2 q3 p0 p1 p2 p3
 go_loopw [12] (fun i wr => ∃ q : Nat, q ≤ 2 ∧ i = .int .i64 q ∧ Hid (Below X.heap.size X wr) ∧ Hid (1 ≤ q → e1 = 0) ∧ Hid (2 ≤ q → e2 = 0)) (fun i _ => 2 - (intOf i).toNat)
 case atStart => exact ⟨0, by omega, rfl, hb0, Lib.hid (fun h => absurd h (by omega)), Lib.hid (fun h => absurd h (by omega))⟩
 case round =>
  obtain ⟨q, hq, rfl, hB, h1, h2⟩ := hrel
  rcases (show q = 0 ∨ q = 1 ∨ q = 2 by omega) with rfl | rfl | rfl
  ·skip
   obtain ⟨z0, z1, z2, z3, z4, z5, z6, z7⟩ := cells8 (heap_keep x2.out (hB.out.mono (by omega)))
   by_cases he : e1 = 0
   ·have hcc := hc1
    rw [he] at hcc
    replace hcc := Lib.hid hcc.out
    have hX6 : Below wr.heap.size wr (wr.alloc (.cells #[.int .i64 l1, .slice As n1 cs, .slice Ae n2 ce, .slice At n3 ct] 25)) := (Below.refl _ _).alloc (Nat.le_refl _) _
    have hB6 := Lib.hid (Below.then_ hB.out hX6)
    obtain ⟨u0, u1, u2, u3⟩ := cells4 (heap_alloc_new wr (.cells #[.int .i64 l1, .slice As n1 cs, .slice Ae n2 ce, .slice At n3 ct] 25))
    replace he := Lib.hid he
    clear hX6
    go_wp2_with fail
    generalize wr.alloc (.cells #[.int .i64 l1, .slice As n1 cs, .slice Ae n2 ce, .slice At n3 ct] 25) = X6 at *
    refine (hcc.out X6 (hBX.out.trans (hB6.out.mono hzX))).mono ?_; rintro e W2 ⟨rfl, hb2⟩
    have hB7 := Lib.hid (Below.then_ hB6.out hb2)
    go_wp2
    go_roundw
    case rel => exact ⟨1, by omega, by go_num, hB7, Lib.hid (fun _ => he.out), Lib.hid (fun h => absurd h (by omega))⟩
    case measure => simp [intOf]
   ·have hr : Hid (R = e1) := Lib.hid (hE.out.trans (if_neg he))
    have hne : (e1 != 0) = true := by rw [bne_iff_ne]; exact he
    have hX6 : Below wr.heap.size wr (wr.alloc (.cells #[.int .i64 l1, .slice As n1 cs, .slice Ae n2 ce, .slice At n3 ct] 25)) := (Below.refl _ _).alloc (Nat.le_refl _) _
    have hB6 := Lib.hid (Below.then_ hB.out hX6)
    obtain ⟨u0, u1, u2, u3⟩ := cells4 (heap_alloc_new wr (.cells #[.int .i64 l1, .slice As n1 cs, .slice Ae n2 ce, .slice At n3 ct] 25))
    replace he := Lib.hid he
    clear hX6
    go_wp2_with fail
    generalize wr.alloc (.cells #[.int .i64 l1, .slice As n1 cs, .slice Ae n2 ce, .slice At n3 ct] 25) = X6 at *
    refine (hc1.out X6 (hBX.out.trans (hB6.out.mono hzX))).mono ?_; rintro e W2 ⟨rfl, hb2⟩
    have hB7 := Lib.hid (Below.then_ hB6.out hb2)
    go_wp2
    go_ret
    exact ⟨by rw [hr.out]; rfl, hBX.out.trans (hB7.out.mono hzX)⟩
  ·skip
   obtain ⟨z0, z1, z2, z3, z4, z5, z6, z7⟩ := cells8 (heap_keep x2.out (hB.out.mono (by omega)))
   by_cases he : e2 = 0
   ·have hcc := hc2
    rw [he] at hcc
    replace hcc := Lib.hid hcc.out
    have hX6 : Below wr.heap.size wr (wr.alloc (.cells #[.int .i64 l2, .slice Bs m1 dS, .slice Be m2 dE, .slice Bt m3 dT] 25)) := (Below.refl _ _).alloc (Nat.le_refl _) _
    have hB6 := Lib.hid (Below.then_ hB.out hX6)
    obtain ⟨u0, u1, u2, u3⟩ := cells4 (heap_alloc_new wr (.cells #[.int .i64 l2, .slice Bs m1 dS, .slice Be m2 dE, .slice Bt m3 dT] 25))
    replace he := Lib.hid he
    clear hX6
    go_wp2_with fail
    generalize wr.alloc (.cells #[.int .i64 l2, .slice Bs m1 dS, .slice Be m2 dE, .slice Bt m3 dT] 25) = X6 at *
    refine (hcc.out X6 (hBX.out.trans (hB6.out.mono hzX))).mono ?_; rintro e W2 ⟨rfl, hb2⟩
    have hB7 := Lib.hid (Below.then_ hB6.out hb2)
    go_wp2
    go_roundw
    case rel => exact ⟨2, by omega, by go_num, hB7, Lib.hid (fun _ => h1.out (by omega)), Lib.hid (fun _ => he.out)⟩
    case measure => simp [intOf]
   ·have hr : Hid (R = e2) := Lib.hid (hE.out.trans ((if_pos (h1.out (by omega))).trans (if_neg he)))
    have hne : (e2 != 0) = true := by rw [bne_iff_ne]; exact he
    have hX6 : Below wr.heap.size wr (wr.alloc (.cells #[.int .i64 l2, .slice Bs m1 dS, .slice Be m2 dE, .slice Bt m3 dT] 25)) := (Below.refl _ _).alloc (Nat.le_refl _) _
    have hB6 := Lib.hid (Below.then_ hB.out hX6)
    obtain ⟨u0, u1, u2, u3⟩ := cells4 (heap_alloc_new wr (.cells #[.int .i64 l2, .slice Bs m1 dS, .slice Be m2 dE, .slice Bt m3 dT] 25))
    replace he := Lib.hid he
    clear hX6
    go_wp2_with fail
    generalize wr.alloc (.cells #[.int .i64 l2, .slice Bs m1 dS, .slice Be m2 dE, .slice Bt m3 dT] 25) = X6 at *
    refine (hc2.out X6 (hBX.out.trans (hB6.out.mono hzX))).mono ?_; rintro e W2 ⟨rfl, hb2⟩
    have hB7 := Lib.hid (Below.then_ hB6.out hb2)
    go_wp2
    go_ret
    exact ⟨by rw [hr.out]; rfl, hBX.out.trans (hB7.out.mono hzX)⟩
  ·have hg1 := h1.out (by omega)
   have hg2 := h2.out (by omega)
   obtain ⟨q0, q1, q2, q3⟩ := cells4 (heap_keep x0'.out (hB.out.mono (by omega)))
   obtain ⟨p0, p1, p2, p3⟩ := cells4 (heap_keep x1'.out (hB.out.mono (by omega)))
   have hfin := Lib.hid (hBX.out.trans (hB.out.mono hzX))
   by_cases hl : l1 = l2
   ·have hr := Lib.hid (hE.out.trans ((if_pos hg1).trans ((if_pos hg2).trans (if_pos hl))))
    replace hg1 := Lib.hid hg1
    replace hg2 := Lib.hid hg2
    have hlb : (l1 != l2) = false := by rw [bne_eq_false_iff_eq]; exact hl
    go_wp2
    go_ret
    exact ⟨by rw [hr.out]; rfl, hfin.out⟩
   ·have hr := Lib.hid (hE.out.trans ((if_pos hg1).trans ((if_pos hg2).trans (if_neg hl))))
    replace hg1 := Lib.hid hg1
    replace hg2 := Lib.hid hg2
    have hlb : (l1 != l2) = true := by rw [bne_iff_ne]; exact hl
    go_wp2
    go_ret
    exact ⟨by rw [hr.out]; rfl, hfin.out⟩
def WaysAt (W : World) (ks : ByteArray) (gf : Nat) : Prop :=
 ∃ bm, W.cell? ⟨0, 0, none⟩ = some (.map (some bm)) ∧ bm < W.heap.size ∧ ∀ W' : World, W'.heap[bm]? = W.heap[bm]? → (Instr.lookup 140 (.map (some bm)) (.string ks) false).run Tryd.prog W' = .ok (.agg #[.func (.func gf) #[] #[]]) W'
theorem WaysAt.below {W W' : World} {ks : ByteArray} {gf : Nat} (h : WaysAt W ks gf) (hb : Below W.heap.size W W') : WaysAt W' ks gf := by
 obtain ⟨bm, h1, h2, h3⟩ := h
 exact ⟨bm, (hb.cell (p := ⟨0, 0, none⟩) (World.block_lt_of_cell? W _ h1)).trans h1, Nat.lt_of_lt_of_le h2 hb.size, fun W2 e => h3 W2 (e.trans (hb.block bm h2))⟩
noncomputable def joinP (a b mk : Aut) : Aut × Int := if bothA a b = 0 then toldA mk else (aut0, bothA a b)
theorem joinedA_any (ks : ByteArray) (gf : Nat) (eg : ∀ args w, (callFunc gf args).run Tryd.prog w = .ok (.enter gf args) w) (a b mk : Aut) (sa ea ta sb eb tb : Value) (w : World) (ra : RdA w sa ea ta a) (rb : RdA w sb eb tb b) (hJ : WaysAt w ks gf)
  (hmk : bothA a b = 0 → ∃ k N : Nat, okA mk k N ∧ N ≤ 999 ∧ ∀ W, Below w.heap.size w W → Calls Tryd.prog gf #[.agg #[.int .i64 a.letters, sa, ea, ta], .agg #[.int .i64 b.letters, sb, eb, tb]] W fun r w' => (∃ A1 A2 A3 n1 n2 n3 c1 c2 c3, r = .returned (.agg #[.int .i64 (k : Nat), .slice A1 n1 c1, .slice A2 n2 c2, .slice A3 n3 c3]) ∧ RdA w' (.slice A1 n1 c1) (.slice A2 n2 c2) (.slice A3 n3 c3) mk) ∧ Below W.heap.size W w') :
  Calls Tryd.prog 85 #[.agg #[.int .i64 a.letters, sa, ea, ta], .agg #[.int .i64 b.letters, sb, eb, tb], .string ks] w (ResA (joinP a b mk) w) := by
 have hbo := Lib.hid (fun W (hW : Below w.heap.size w W) => both_any17 a b sa ea ta sb eb tb W (ra.below hW (Nat.le_refl _)) (rb.below hW (Nat.le_refl _)))
 obtain ⟨As, cs, rfl, -, -⟩ := ra.start.cell_
 obtain ⟨Ae, ce, rfl, -, -⟩ := ra.end_.cell_
 obtain ⟨At, ct, rfl, -, -⟩ := RdS.open_ ([] : List (List Int)) ra.steps
 obtain ⟨Bs, dS, rfl, -, -⟩ := rb.start.cell_
 obtain ⟨Be, dE, rfl, -, -⟩ := rb.end_.cell_
 obtain ⟨Bt, dT, rfl, -, -⟩ := RdS.open_ ([] : List (List Int)) rb.steps
 have hE : Hid (joinP a b mk = if bothA a b = 0 then toldA mk else (aut0, bothA a b)) := Lib.hid rfl
 clear ra rb
 generalize joinP a b mk = R at *
 generalize bothA a b = er at *
 generalize a.letters = l1 at *
 generalize b.letters = l2 at *
 generalize a.start.length = n1 at *
 generalize a.end_.length = n2 at *
 generalize a.steps.length = n3 at *
 generalize b.start.length = m1 at *
 generalize b.end_.length = m2 at *
 generalize b.steps.length = m3 at *
 obtain ⟨x0, x1, x2⟩ := three1 w (.cells #[.int .i64 l1, .slice As n1 cs, .slice Ae n2 ce, .slice At n3 ct] 25) (.cells #[.int .i64 l2, .slice Bs m1 dS, .slice Be m2 dE, .slice Bt m3 dT] 25) (.cells #[.int .i64 0, .slice none 0 0, .slice none 0 0, .slice none 0 0] 25)
 have hBX : Below w.heap.size w (((w.alloc (.cells #[.int .i64 l1, .slice As n1 cs, .slice Ae n2 ce, .slice At n3 ct] 25)).alloc (.cells #[.int .i64 l2, .slice Bs m1 dS, .slice Be m2 dE, .slice Bt m3 dT] 25)).alloc (.cells #[.int .i64 0, .slice none 0 0, .slice none 0 0, .slice none 0 0] 25)) := (((Below.refl _ w).alloc (Nat.le_refl _) _).alloc (by simp) _).alloc (by simp; omega) _
 obtain ⟨q0, q1, q2, q3⟩ := cells4 x0
 obtain ⟨p0, p1, p2, p3⟩ := cells4 x1
 go_enter Tryd.func85, Tryd.ntmps85
 go_wp2_with fail
 generalize (((w.alloc (.cells #[.int .i64 l1, .slice As n1 cs, .slice Ae n2 ce, .slice At n3 ct] 25)).alloc (.cells #[.int .i64 l2, .slice Bs m1 dS, .slice Be m2 dE, .slice Bt m3 dT] 25)).alloc (.cells #[.int .i64 0, .slice none 0 0, .slice none 0 0, .slice none 0 0] 25)) = X at *
 refine (hbo.out X hBX).mono ?_; rintro e W1 ⟨rfl, hb⟩
 have hB1 := Lib.hid (Below.then_ hBX hb)
 replace x0 := heap_keep x0 hb
 replace x1 := heap_keep x1 hb
 replace x2 := heap_keep x2 hb
 clear hb hBX hbo q0 q1 q2 q3 p0 p1 p2 p3
 obtain ⟨q0, q1, q2, q3⟩ := cells4 x0
 obtain ⟨p0, p1, p2, p3⟩ := cells4 x1
 by_cases he : er = 0
 ·obtain ⟨k, N, ok, hN, hm⟩ := hmk he
  have hr : Hid (R = toldA mk) := Lib.hid (hE.out.trans (if_pos he))
  obtain ⟨bm, hc0, -, hlk⟩ := hJ.below hB1.out
  have hlook := hlk W1 rfl
  have hfd : ∀ w : World, (Instr.field 139 (.agg #[.func (.func gf) #[] #[]]) 0).run Tryd.prog w = .ok (.func (.func gf) #[] #[]) w := fun _ => by kernel_rfl
  replace hm := Lib.hid hm
  replace x2 := Lib.hid x2
  have hlx := lt_of_block x2.out
  subst he
  clear hmk hE hlk hJ x0 x1
  go_wp2_with fail
  go_at_fn gf
  refine (hm.out W1 hB1.out).mono ?_; rintro e W2 ⟨⟨A1, A2, A3, i1, i2, i3, c1, c2, c3, rfl, rd⟩, hb2⟩
  have hB2 := Lib.hid (Below.then_ hB1.out hb2)
  have hcall := Lib.hid (result_any ok hN _ _ _ W2 rd)
  have hz2 := hb2.size
  replace x2 := Lib.hid (heap_keep x2.out hb2)
  clear rd hb2
  go_wp2_with fail
  refine hcall.out.mono ?_; rintro e W3 ⟨x, rfl, hF, hb3⟩
  obtain ⟨F1, F2, F3, f1, f2, f3, g1, g2, g3, rfl⟩ := hF.form
  have x2r := Lib.hid (heap_keep x2.out hb3)
  obtain ⟨p0, p1, p2, p3⟩ := cells4 x2r.out
  obtain ⟨z0, z1, z2, z3⟩ := frozen4 x2r.out
  have hB3 := Lib.hid (Below.then_ hB2.out hb3)
  have hF2 := Lib.hid (hF.base (hB2.out.size))
  generalize toldA mk = p at *
  obtain ⟨bb, er⟩ := p
  simp only [] at hF2 ⊢
  clear hF hb3
  go_wp2_with fail
  refine bodyPost_ret (res_ct rfl _ _ (w.heap.size + 2) 25 #[.int .i64 bb.letters, .slice F1 f1 g1, .slice F2 f2 g2, .slice F3 f3 g3] (0, 0) _ rfl (heap_set4 _ _ _ _ x2r.out) rfl rfl rfl) rfl ?_
  rw [hr.out]
  exact resA_set (p := (bb, er)) x2r.out (by omega) hB3.out hF2.out (Nat.le_refl _)
 ·have hr : Hid (R = (aut0, er)) := Lib.hid (hE.out.trans (if_neg he))
  have hne : (er != 0) = true := by rw [bne_iff_ne]; exact he
  obtain ⟨p0, p1, p2, p3⟩ := cells4 x2
  obtain ⟨f0, f1, f2, f3⟩ := frozen4 x2
  replace x2 := Lib.hid x2
  clear hmk hJ x0 x1
  go_wp2_with fail
  refine bodyPost_ret (res_ct rfl _ _ (w.heap.size + 2) 25 #[.int .i64 0, .slice none 0 0, .slice none 0 0, .slice none 0 0] (0, 0) _ rfl (heap_set4 _ _ _ _ x2.out) rfl rfl rfl) rfl ?_
  rw [hr.out]
  exact resA_set (p := (aut0, er)) x2.out (by omega) hB1.out (FrA.zero _ _) (Nat.le_refl _)
end Go.Proofs.YtlpldfocljnpnaaDoor
namespace Go.Proofs.YtlpldfocljnpnaaDoor
open Go.RowKit Go.Shelf
def mulP (v u : Int) : Int := v * u % 65521
def aftE (a b : Aut) (n : Nat) (x i j : Nat) : Int := if i < n ∧ n ≤ j then mulP ((backL (a.steps.getD x []) a.end_).getD i 0) (b.start.getD (j - n) 0) else sideE a b n x i j
def afterA (a b : Aut) : Aut := mkA a.steps.length (a.start ++ b.start.map (mulP (dotL a.start a.end_))) (List.replicate a.start.length 0 ++ b.end_) (aftE a b a.start.length) (a.start.length + b.start.length)
theorem mulP_bd (v u : Int) : 0 ≤ mulP v u ∧ mulP v u < 65521 := ⟨Int.emod_nonneg _ (by decide), Int.emod_lt_of_pos _ (by decide)⟩
theorem after_ok {a b : Aut} {k n m : Nat} (oka : okA a k n) (okb : okA b k m) : okA (afterA a b) k (n + m) := by
 unfold afterA
 rw [oka.steps, oka.start.1, okb.start.1]
 refine mkA_ok oka.pos (app_ok oka.start ⟨by rw [List.length_map]; exact okb.start.1, fun u hu => ?_⟩) (app_ok ⟨by simp, fun u hu => by rw [List.eq_of_mem_replicate hu]; decide⟩ okb.end_) fun x i j _ _ _ => ?_
 ·obtain ⟨v, _, rfl⟩ := List.mem_map.1 hu; exact mulP_bd _ _
 ·unfold aftE
  split
  ·exact mulP_bd _ _
  ·exact sideE_bd oka okb _ _ _ _
def aftS (s1 s2 : List Int) (emp : Int) (i : Nat) : List Int := s1 ++ (s2.take i).map (mulP emp) ++ s2.drop i
theorem aftS_zero (s1 s2 : List Int) (emp : Int) : aftS s1 s2 emp 0 = s1 ++ s2 := by simp [aftS]
theorem aftS_end (s1 s2 : List Int) (emp : Int) : aftS s1 s2 emp s2.length = s1 ++ s2.map (mulP emp) := by simp [aftS]
theorem aftS_len (s1 s2 : List Int) (emp : Int) (i : Nat) : (aftS s1 s2 emp i).length = s1.length + s2.length := by
 simp [aftS]; omega
theorem aftS_set {s1 s2 : List Int} {emp : Int} {i : Nat} (hi : i < s2.length) : (aftS s1 s2 emp i).set (s1.length + i) (mulP emp (s2.getD i 0)) = aftS s1 s2 emp (i + 1) := by
 apply List.ext_getElem (by simp [aftS]; omega)
 intro j h1 h2
 rw [List.getElem_set]
 have hl : ((s2.take i).map (mulP emp)).length = i := by simp; omega
 have hl2 : ((s2.take (i + 1)).map (mulP emp)).length = i + 1 := by simp; omega
 simp only [aftS]
 by_cases e : s1.length + i = j
 ·subst e
  rw [if_pos rfl, List.getElem_append_left (by simp; omega), List.getElem_append_right (by omega)]
  simp only [show s1.length + i - s1.length = i by omega, List.getElem_map, List.getElem_take]
  rw [List.getD_eq_getElem?_getD, List.getElem?_eq_getElem hi]; rfl
 ·rw [if_neg e]
  by_cases hj : j < s1.length
  ·rw [List.getElem_append_left (by simp; omega), List.getElem_append_left hj, List.getElem_append_left (by simp; omega), List.getElem_append_left hj]
  ·by_cases hj2 : j < s1.length + i
   ·rw [List.getElem_append_left (by simp; omega), List.getElem_append_right (by omega), List.getElem_append_left (by simp; omega), List.getElem_append_right (by omega)]
    simp
   ·rw [List.getElem_append_right (by simp; omega), List.getElem_append_right (by simp; omega)]
    simp only [List.length_append, hl, hl2, List.getElem_drop]
    congr 1
    omega
def aftD (n x i k y i' j' : Nat) : Bool := decide (y < x ∨ (y = x ∧ (i' < i ∨ (i' = i ∧ j' < n + k))))
def aftF (a b : Aut) (n x i k y i' j' : Nat) : Int := if aftD n x i k y i' j' = true then aftE a b n y i' j' else sideE a b n y i' j'
def aftM (a b : Aut) (n N K x i k : Nat) : List (List (List Int)) := (List.range K).map fun y => mat (aftF a b n x i k y) N N
theorem aftM_len (a b : Aut) (n N K x i k : Nat) : (aftM a b n N K x i k).length = K := by simp [aftM]
theorem aftE_side {a b : Aut} {n y i j : Nat} (h : ¬ (i < n ∧ n ≤ j)) : aftE a b n y i j = sideE a b n y i j := by rw [aftE, if_neg h]
theorem aftM_congr {a b : Aut} {n N K x i k x' i' k' : Nat} (h : ∀ y r c, y < K → r < N → c < N → aftF a b n x i k y r c = aftF a b n x' i' k' y r c) : aftM a b n N K x i k = aftM a b n N K x' i' k' := by
 refine List.map_congr_left fun y hy => ?_
 refine List.map_congr_left fun r hr => List.map_congr_left fun c hc => h y r c (List.mem_range.1 hy) (List.mem_range.1 hr) (List.mem_range.1 hc)
theorem aftM_zero (a b : Aut) (n N K : Nat) : aftM a b n N K 0 0 0 = msP (sideE a b n) N K := by
 refine List.map_congr_left fun y hy => ?_
 refine List.map_congr_left fun r hr => List.map_congr_left fun c hc => ?_
 unfold aftF aftD
 by_cases h : y = 0 ∧ r = 0 ∧ c < n
 ·split
  ·exact aftE_side (by omega)
  ·rfl
 ·rw [if_neg (by simp; omega)]
theorem aftM_row {a b : Aut} {n m K x i : Nat} : aftM a b n (n + m) K x i m = aftM a b n (n + m) K x (i + 1) 0 := by
 refine aftM_congr fun y r c hy hr hc => ?_
 unfold aftF aftD
 by_cases h1 : y < x
 ·rw [if_pos (by simp [h1]), if_pos (by simp [h1])]
 ·by_cases h2 : y = x ∧ r ≤ i
  ·rw [if_pos (by simp; omega), if_pos (by simp; omega)]
  ·rw [if_neg (by simp; omega)]
   split
   ·rename_i h
    simp at h
    exact (aftE_side (by omega)).symm
   ·rfl
theorem aftM_let {a b : Aut} {n m K x : Nat} : aftM a b n (n + m) K x n 0 = aftM a b n (n + m) K (x + 1) 0 0 := by
 refine aftM_congr fun y r c hy hr hc => ?_
 unfold aftF aftD
 by_cases h1 : y < x
 ·rw [if_pos (by simp [h1]), if_pos (by simp; omega)]
 ·by_cases h2 : y = x
  ·subst h2
   rw [if_pos (show decide (y < y + 1 ∨ _) = true by simp)]
   split
   ·rfl
   ·rename_i h
    simp at h
    exact (aftE_side (by omega)).symm
  ·rw [if_neg (by simp; omega)]
   split
   ·rename_i h
    simp at h
    exact (aftE_side (by omega)).symm
   ·rfl
theorem aftM_end (a b : Aut) (n N K : Nat) : aftM a b n N K K 0 0 = msP (aftE a b n) N K := by
 refine List.map_congr_left fun y hy => ?_
 refine List.map_congr_left fun r hr => List.map_congr_left fun c hc => ?_
 unfold aftF aftD
 rw [if_pos (by have := List.mem_range.1 hy; simp [this])]
theorem aftM_get {a b : Aut} {n N K x i k y : Nat} (hy : y < K) : (aftM a b n N K x i k)[y]? = some (mat (aftF a b n x i k y) N N) := by
 rw [aftM, List.getElem?_map, List.getElem?_range hy]; rfl
theorem mat_row {f : Nat → Nat → Int} {N i : Nat} (hi : i < N) : (mat f N N)[i]? = some ((List.range N).map (f i)) := by
 rw [mat, List.getElem?_map, List.getElem?_range hi]; rfl
theorem mat_set {f g : Nat → Nat → Int} {N i j : Nat} {v : Int} (hi : i < N) (_hj : j < N) (h1 : g i j = v) (h2 : ∀ r c, r < N → c < N → ¬ (r = i ∧ c = j) → g r c = f r c) : (mat f N N).set i (((List.range N).map (f i)).set j v) = mat g N N := by
 apply List.ext_getElem (by simp [mat])
 intro r q1 q2
 have hr : r < N := by simpa [mat] using q2
 rw [List.getElem_set]
 by_cases e : i = r
 ·subst e
  rw [if_pos rfl]
  apply List.ext_getElem (by simp [mat])
  intro c p1 p2
  have hc : c < N := by simpa using p1
  rw [List.getElem_set]
  simp only [mat, List.getElem_map, List.getElem_range]
  by_cases e2 : j = c
  ·subst e2; rw [if_pos rfl]; exact h1.symm
  ·rw [if_neg e2]; exact (h2 i c hi hc (fun h => e2 h.2.symm)).symm
 ·rw [if_neg e]
  simp only [mat, List.getElem_map, List.getElem_range]
  exact List.map_congr_left fun c hc => (h2 r c hr (List.mem_range.1 hc) (fun h => e h.1.symm)).symm
theorem aftM_set {a b : Aut} {n m K x i k : Nat} (_hx : x < K) (hi : i < n) (hk : k < m) :
  (aftM a b n (n + m) K x i k).set x ((mat (aftF a b n x i k x) (n + m) (n + m)).set i (((List.range (n + m)).map (aftF a b n x i k x i)).set (n + k) (mulP ((backL (a.steps.getD x []) a.end_).getD i 0) (b.start.getD k 0)))) = aftM a b n (n + m) K x i (k + 1) := by
 rw [mat_set (g := aftF a b n x i (k + 1) x) (by omega) (by omega) ?_ (fun r c hr hc hne => ?_)]
 ·apply List.ext_getElem (by simp [aftM])
  intro y q1 q2
  have hy : y < K := by simpa [aftM] using q2
  rw [List.getElem_set]
  by_cases e : x = y
  ·subst e; rw [if_pos rfl]; try simp [aftM]
  ·rw [if_neg e]
   simp only [aftM, List.getElem_map, List.getElem_range]
   refine List.map_congr_left fun r hr => List.map_congr_left fun c hc => ?_
   unfold aftF aftD
   simp [Ne.symm e]
 ·unfold aftF aftD
  rw [if_pos (by simp), aftE, if_pos (by omega), show n + k - n = k by omega]
 ·unfold aftF aftD
  by_cases h : x < x ∨ (x = x ∧ (r < i ∨ (r = i ∧ c < n + k)))
  ·rw [if_pos (by simp at h ⊢; omega), if_pos (by simpa using h)]
  ·rw [if_neg (by simp at h ⊢; omega), if_neg (by simpa using h)]
theorem OwnQ.num {W : World} {H : Nat} {t : Value} {us : List Value} {lo : Nat → Nat} {M : List (List (List Int))} (h : OwnQ W H t us lo M) {y i k : Nat} {m : List (List Int)} {r : List Int} (hm : M[y]? = some m) (hr : m[i]? = some r) (hk : k < r.length) :
  ∃ g1 c1 g2 c2 g3 c3, t = .slice (some ⟨g1, 0, none⟩) M.length c1 ∧ W.cell? ⟨g1, y, none⟩ = some (.slice (some ⟨g2, 0, none⟩) m.length c2) ∧ W.cell? ⟨g2, i, none⟩ = some (.slice (some ⟨g3, 0, none⟩) r.length c3) ∧ W.cell? ⟨g3, k, none⟩ = some (.int .i64 (r.getD k 0)) ∧ W.frozen? ⟨g3, k, none⟩ = false ∧ (lo 0 ≤ g3 ∧ g3 < lo M.length) ∧ (∃ cs, W.heap[g3]? = some (.cells cs 3 (0, 0))) ∧
   ∀ v : Int, OwnQ (W.setCell ⟨g3, k, none⟩ (.int .i64 v)) H t us lo (M.set y (m.set i (r.set k v))) ∧ Frame (fun q => q = g3) W (W.setCell ⟨g3, k, none⟩ (.int .i64 v)) := by
 have hul := h.ul
 have hy := (List.getElem?_eq_some_iff.1 hm).1
 have hu : us[y]? = some us[y] := List.getElem?_eq_getElem (by omega)
 obtain ⟨xs, hx, hx2⟩ := h.mats y m _ hm hu
 have hil := (List.getElem?_eq_some_iff.1 hr).1
 have hxl := hx.len
 have hix : i < xs.length := by omega
 have hxu : xs[i]? = some xs[i] := List.getElem?_eq_getElem hix
 obtain ⟨g1, c1, e1, -, -⟩ := h.outer.form (by omega)
 obtain ⟨g2, c2, e2, hb2, hl2, hc2, -⟩ := hx.at_ hr hxu
 obtain ⟨g3, c3, e3, hb3, hl3, hc3, hf3⟩ := hx.num hr hxu hk
 have hlt3 := hx2 _ (List.getElem_mem hix) g3 (by rw [e3]; rfl)
 have ho3 := hx.rows i r _ hr hxu
 obtain ⟨cs3, hty⟩ := own_ty ho3 (q := g3) (by rw [e3]; rfl)
 refine ⟨g1, c1, g2, c2, g3, c3, e1, ?_, ?_, hc3, hf3, ⟨Nat.le_trans (h.mono 0 y (Nat.zero_le _)) hb3, Nat.lt_of_lt_of_le hlt3 (h.mono (y + 1) M.length (by omega))⟩, ⟨cs3, hty⟩, fun v => ?_⟩
 ·have ho := h.outer
  rw [e1] at ho
  rw [ho.cellAt y (by omega), hu, e2]
 ·rw [hc2, e3]
 ·have hF : Frame (fun q => q = g3) W (W.setCell ⟨g3, k, none⟩ (.int .i64 v)) := Frame.setCell W g3 k _ rfl
  have tyne : ∀ {b e s n : Nat} {v : Value} {xs : List Value}, W.ownsRow b e s v n xs → e ≠ 3 → ∀ q, v.ownBlock = some q → ¬ q = g3 := fun ho he q hq e => by
   obtain ⟨cs, hcs⟩ := own_ty ho hq
   rw [e] at hcs
   exact type_ne hcs hty he
  refine ⟨⟨by rw [List.length_set]; exact hF.owns h.outer (tyne h.outer (by decide)), fun y' m' u' hm' hu' => ?_, h.mono, h.base, by rw [List.length_set]; exact Nat.le_trans h.top hF.size⟩, hF⟩
  by_cases e : y = y'
  ·subst e
   rw [List.getElem?_set_self hy] at hm'
   rw [hu] at hu'
   cases hm'; cases hu'
   rw [e3] at hxu
   exact ⟨xs, (hx.put hr hxu v).1, hx2⟩
  ·rw [List.getElem?_set_ne e] at hm'
   obtain ⟨ys, hy1, hy2⟩ := h.mats y' m' u' hm' hu'
   refine ⟨ys, hy1.frame hF (fun v' hv' q hq => ?_), hy2⟩
   rcases List.mem_cons.1 hv' with rfl | hv'
   ·exact tyne hy1.outer (by decide) q hq
   ·intro e'
    subst e'
    have hge := (hy1.ge v' hv' q hq).1
    have hlt := hy2 v' hv' q hq
    rcases Nat.lt_or_ge y y' with hlt' | hge'
    ·have := h.mono (y + 1) y' (by omega); omega
    ·have := h.mono (y' + 1) y (by omega); omega
end Go.Proofs.YtlpldfocljnpnaaDoor
namespace Go.Proofs.YtlpldfocljnpnaaDoor
open Go.RowKit Go.Shelf
def putAt (r : List Int) (o : Nat) : List Int → List Int
 | [] => r
 | y :: ys => putAt (r.set o y) (o + 1) ys
theorem putAt_get (ys : List Int) : ∀ (r : List Int) (o j : Nat), o + ys.length ≤ r.length → (putAt r o ys)[j]? = if o ≤ j ∧ j < o + ys.length then ys[j - o]? else r[j]? := by
 induction ys with
 | nil => intro r o j _; rw [putAt, if_neg (by simp)]
 | cons y ys ih =>
  intro r o j h
  rw [putAt, ih _ _ _ (by simp at h ⊢; omega)]
  simp only [List.length_cons] at h ⊢
  by_cases h1 : o = j
  ·subst h1
   rw [if_neg (by omega), if_pos (by omega), List.getElem?_set_self (by omega), Nat.sub_self]; rfl
  ·by_cases h2 : o + 1 ≤ j ∧ j < o + 1 + ys.length
   ·rw [if_pos h2, if_pos (by omega), show j - o = (j - (o + 1)) + 1 by omega]; rfl
   ·rw [if_neg h2, if_neg (by omega), List.getElem?_set_ne h1]
theorem OwnI.puts {base g n c : Nat} : ∀ (ys : List Int) (w : World) (xs : List Int) (o : Nat), OwnI w base (.slice (some ⟨g, 0, none⟩) n c) xs →
  OwnI (w.setCells g o (ints ys)) base (.slice (some ⟨g, 0, none⟩) n c) (putAt xs o ys) ∧ KeptBut [.slice (some ⟨g, 0, none⟩) n c] w (w.setCells g o (ints ys))
 | [], w, xs, o, h => ⟨h, KeptBut.refl _ _⟩
 | y :: ys, w, xs, o, h => by
  obtain ⟨h2, k2⟩ := OwnI.puts ys _ _ (o + 1) (h.put o y)
  exact ⟨h2, ((KeptBut.refl _ _).setCell (List.mem_singleton.2 rfl) rfl _).trans k2⟩
end Go.Proofs.YtlpldfocljnpnaaDoor
namespace Go.Proofs.YtlpldfocljnpnaaDoor
open Go.RowKit Go.Shelf
theorem ints_rep (n : Nat) : ints (List.replicate n 0) = List.replicate n (.int .i64 0) := by simp [ints]
theorem keptBut_frame {v : Value} {W W' : World} (h : KeptBut [v] W W') : Frame (fun q => v.ownBlock = some q) W W' :=
 ⟨h.os, h.tape, h.output, h.size, fun q hq hn => h.block q hq (fun u hu => by rw [List.mem_singleton.1 hu]; exact hn)⟩
theorem own_clear {W : World} {B N c n : Nat} {A : Option Addr} {xs : List Int} (h : OwnI W B (.slice A N c) xs) (hx : xs.length = N) (hn : n ≤ N) :
  ∃ W', (∀ ty, (Builtin.clear_ #[22] ty #[.slice A n c]).run Tryd.prog W = .ok (.tuple #[]) W') ∧ OwnI W' B (.slice A N c) (putAt xs 0 (List.replicate n 0)) ∧ Frame (fun q => (Value.slice A N c).ownBlock = some q) W W' := by
 by_cases h0 : n = 0
 ·subst h0
  exact ⟨W, fun ty => by cases A <;> simp [Builtin.clear_, run_underlying Tryd.underlying22], h, Frame.refl _ _⟩
 ·obtain ⟨g, c', e, -, -⟩ := World.ownsRow.form h (by omega)
  simp only [Value.slice.injEq] at e
  obtain ⟨rfl, -, rfl⟩ := e
  obtain ⟨p1, p2⟩ := OwnI.puts (List.replicate n 0) W xs 0 h
  rw [ints_rep] at p1 p2
  refine ⟨_, fun ty => Lib.run_clear_slice (P := Tryd.prog) W 22 3 ty (.int .i64 0) Tryd.underlying22 (fun _ => by kernel_rfl) rfl rfl g 0 n c (by omega) (fun j hj => ?_) (fun j hj => ?_), p1, keptBut_frame p2⟩
  ·rw [Nat.zero_add]
   have := (h.num (k := j) (by omega)).1
   rw [this]; rfl
  ·rw [Nat.zero_add]
   exact (h.num (k := j) (by omega)).2
theorem putAt_app {xs ys : List Int} {n : Nat} (h : xs.length = n) : putAt (xs ++ ys) 0 (List.replicate n 0) = List.replicate n 0 ++ ys := by
 apply List.ext_getElem?
 intro j
 rw [putAt_get _ _ _ _ (by simp; omega)]
 by_cases hj : j < n
 ·rw [if_pos (by simp; omega), List.getElem?_append_left (by simp; omega), Nat.sub_zero]
 ·rw [if_neg (by simp; omega), List.getElem?_append_right (by omega), List.getElem?_append_right (by simp; omega), h]; simp
theorem OwnQ.frameI {W W' : World} {H : Nat} {t : Value} {us : List Value} {lo : Nat → Nat} {M : List (List (List Int))} {F : Nat → Prop} (h : OwnQ W H t us lo M) (hf : Frame F W W') (h1 : ∀ q, F q → q < lo 0) (h2 : ∀ q cs T, F q → W.heap[q]? = some (.cells cs T (0, 0)) → T ≠ 22 ∧ T ≠ 59) : OwnQ W' H t us lo M := by
 refine ⟨hf.owns h.outer (fun q hq hF => ?_), fun y m u hm hu => ?_, h.mono, h.base, Nat.le_trans h.top hf.size⟩
 ·obtain ⟨cs, hcs⟩ := own_ty h.outer hq
  exact (h2 q cs _ hF hcs).2 rfl
 ·obtain ⟨xs, hx, hx2⟩ := h.mats y m u hm hu
  refine ⟨xs, hx.frame hf (fun v hv q hq hF => ?_), hx2⟩
  rcases List.mem_cons.1 hv with rfl | hv
  ·obtain ⟨cs, hcs⟩ := own_ty hx.outer hq
   exact (h2 q cs _ hF hcs).1 rfl
  ·have hge := (hx.ge v hv q hq).1
   have := h1 q hF
   have := h.mono 0 y (Nat.zero_le _)
   omega
structure AftW (w : World) (l : Int) (g5 g7 B1 B2 H : Nat) (EC : Array Value) (s e t : Value) (us : List Value) (lo : Nat → Nat) (S E : List Int) (M : List (List (List Int))) (W : World) : Prop where
 low : Below w.heap.size w W
 eng : W.heap[g5]? = some (.cells EC 77 (0, 0))
 box : W.heap[g7]? = some (.cells #[.int .i64 l, s, e, t] 25 (0, 0))
 start : OwnI W B1 s S
 end_ : OwnI W B2 e E
 mats : OwnQ W H t us lo M
 b1 : w.heap.size ≤ B1
 b2 : w.heap.size ≤ B2
 bH : w.heap.size ≤ H
 sB : ∀ q, s.ownBlock = some q → q < B2
 sl : ∀ q, s.ownBlock = some q → q < lo 0
 el : ∀ q, e.ownBlock = some q → q < lo 0
namespace AftW
variable {w W C : World} {l : Int} {g5 g7 B1 B2 H : Nat} {EC : Array Value} {s e t : Value} {us : List Value} {lo : Nat → Nat} {S E S' E' : List Int} {M : List (List (List Int))}
theorem kept (h : AftW w l g5 g7 B1 B2 H EC s e t us lo S E M W) (hb : Below W.heap.size W C) : AftW w l g5 g7 B1 B2 H EC s e t us lo S E M C :=
 ⟨Below.then_ h.low hb, heap_keep h.eng hb, heap_keep h.box hb, h.start.below hb, h.end_.below hb, h.mats.kept hb, h.b1, h.b2, h.bH, h.sB, h.sl, h.el⟩
theorem putS (h : AftW w l g5 g7 B1 B2 H EC s e t us lo S E M W) (hf : Frame (fun q => s.ownBlock = some q) W C) (ho : OwnI C B1 s S') : AftW w l g5 g7 B1 B2 H EC s e t us lo S' E M C := by
 have ty : ∀ q cs T, s.ownBlock = some q → W.heap[q]? = some (.cells cs T (0, 0)) → T = 3 := fun q cs T hq hT => by
  obtain ⟨cs', h'⟩ := own_ty h.start hq
  rw [h'] at hT; cases hT; rfl
 refine ⟨h.low.trans (hf.below h.low.size (fun q hq => Nat.le_trans h.b1 (h.start.lt q hq).1)), hf.heap h.eng (fun hq => ?_), hf.heap h.box (fun hq => ?_), ho, hf.owns h.end_ (fun q hq hF => ?_), h.mats.frameI hf h.sl (fun q cs T hq hT => by rw [ty q cs T hq hT]; exact ⟨by decide, by decide⟩), h.b1, h.b2, h.bH, h.sB, h.sl, h.el⟩
 ·exact absurd (ty _ _ _ hq h.eng) (by decide)
 ·exact absurd (ty _ _ _ hq h.box) (by decide)
 ·have := h.sB q hF; have := (h.end_.lt q hq).1; omega
theorem putE (h : AftW w l g5 g7 B1 B2 H EC s e t us lo S E M W) (hf : Frame (fun q => e.ownBlock = some q) W C) (ho : OwnI C B2 e E') : AftW w l g5 g7 B1 B2 H EC s e t us lo S E' M C := by
 have ty : ∀ q cs T, e.ownBlock = some q → W.heap[q]? = some (.cells cs T (0, 0)) → T = 3 := fun q cs T hq hT => by
  obtain ⟨cs', h'⟩ := own_ty h.end_ hq
  rw [h'] at hT; cases hT; rfl
 refine ⟨h.low.trans (hf.below h.low.size (fun q hq => Nat.le_trans h.b2 (h.end_.lt q hq).1)), hf.heap h.eng (fun hq => ?_), hf.heap h.box (fun hq => ?_), hf.owns h.start (fun q hq hF => ?_), ho, h.mats.frameI hf h.el (fun q cs T hq hT => by rw [ty q cs T hq hT]; exact ⟨by decide, by decide⟩), h.b1, h.b2, h.bH, h.sB, h.sl, h.el⟩
 ·exact absurd (ty _ _ _ hq h.eng) (by decide)
 ·exact absurd (ty _ _ _ hq h.box) (by decide)
 ·have := h.sB q hq; have := (h.end_.lt q hF).1; omega
theorem num (h : AftW w l g5 g7 B1 B2 H EC s e t us lo S E M W) {y i k : Nat} {m : List (List Int)} {r : List Int} (hm : M[y]? = some m) (hr : m[i]? = some r) (hk : k < r.length) :
  ∃ g1 c1 g2 c2 g3 c3, t = .slice (some ⟨g1, 0, none⟩) M.length c1 ∧ W.cell? ⟨g1, y, none⟩ = some (.slice (some ⟨g2, 0, none⟩) m.length c2) ∧ W.cell? ⟨g2, i, none⟩ = some (.slice (some ⟨g3, 0, none⟩) r.length c3) ∧ W.cell? ⟨g3, k, none⟩ = some (.int .i64 (r.getD k 0)) ∧ W.frozen? ⟨g3, k, none⟩ = false ∧
   ∀ v : Int, AftW w l g5 g7 B1 B2 H EC s e t us lo S E (M.set y (m.set i (r.set k v))) (W.setCell ⟨g3, k, none⟩ (.int .i64 v)) ∧ Frame (fun q => q < lo M.length) W (W.setCell ⟨g3, k, none⟩ (.int .i64 v)) := by
 obtain ⟨g1, c1, g2, c2, g3, c3, e1, h1, h2, h3, h4, ⟨h5, h7⟩, ⟨cs, hty⟩, h6⟩ := h.mats.num hm hr hk
 refine ⟨g1, c1, g2, c2, g3, c3, e1, h1, h2, h3, h4, fun v => ?_⟩
 obtain ⟨hq, hf⟩ := h6 v
 have hb := h.mats.base
 refine ⟨⟨h.low.trans (hf.below h.low.size (fun q hq => by rw [hq]; exact Nat.le_trans h.bH (Nat.le_trans hb h5))), hf.heap h.eng (fun e => ?_), hf.heap h.box (fun e => ?_), hf.owns h.start (fun q hq e => ?_), hf.owns h.end_ (fun q hq e => ?_), hq, h.b1, h.b2, h.bH, h.sB, h.sl, h.el⟩, hf.mono (fun q hq => by rw [hq]; exact h7)⟩
 ·have e : g5 = g3 := e
  have h9 := h.eng
  rw [e] at h9
  exact type_ne h9 hty (by decide)
 ·have e : g7 = g3 := e
  have h9 := h.box
  rw [e] at h9
  exact type_ne h9 hty (by decide)
 ·have := h.sl q hq; have e : q = g3 := e; omega
 ·have := h.el q hq; have e : q = g3 := e; omega
end AftW
end Go.Proofs.YtlpldfocljnpnaaDoor
namespace Go.Proofs.YtlpldfocljnpnaaDoor
open Go.RowKit Go.Shelf
theorem after_any {a b : Aut} {k n m : Nat} (oka : okA a k n) (okb : okA b k m) (hn : n ≤ 400) (hm : m ≤ 400) (sa ea ta sb eb tb : Value) (w : World) (ra : RdA w sa ea ta a) (rb : RdA w sb eb tb b) :
  Calls Tryd.prog 160 #[.agg #[.int .i64 (k : Nat), sa, ea, ta], .agg #[.int .i64 (k : Nat), sb, eb, tb]] w fun r w' => (∃ A1 A2 A3 n1 n2 n3 c1 c2 c3, r = .returned (.agg #[.int .i64 (k : Nat), .slice A1 n1 c1, .slice A2 n2 c2, .slice A3 n3 c3]) ∧ RdA w' (.slice A1 n1 c1) (.slice A2 n2 c2) (.slice A3 n3 c3) (afterA a b)) ∧ Below w.heap.size w w' := by
 have hbes := Lib.hid (fun W (hW : Below w.heap.size w W) => beside_any oka okb hn hm sa ea ta sb eb tb W (ra.below hW (Nat.le_refl _)) (rb.below hW (Nat.le_refl _)))
 have hdot := Lib.hid (fun W (hW : Below w.heap.size w W) => (dot_any a.start a.end_ sa ea W (ra.start.below hW (Nat.le_refl _)) (ra.end_.below hW (Nat.le_refl _)) (by rw [oka.start.1, oka.end_.1]; exact Nat.le_refl _) (by rw [oka.start.1]; omega) oka.start.2 oka.end_.2).mono (R' := fun e w' => e = .returned (.int .i64 (dotL a.start a.end_)) ∧ Below W.heap.size W w') (fun e w' ⟨h1, h2⟩ => ⟨h1, h2 ▸ Below.refl _ _⟩))
 have hbk := Lib.hid (fun x (hx : x < k) W (hW : Below w.heap.size w W) => back_any oka (by omega) a.end_ x hx oka.end_.1 oka.end_.2 sa ea ta ea W (ra.below hW (Nat.le_refl _)) (ra.end_.below hW (Nat.le_refl _)))
 obtain ⟨As, cs, e1, -, -⟩ := ra.start.cell_
 obtain ⟨Ae, ce, e2, -, -⟩ := ra.end_.cell_
 obtain ⟨At, ct, e3, -, -⟩ := RdS.open_ ([] : List (List Int)) ra.steps
 obtain ⟨Bs, dS, e4, -, -, h4⟩ := rb.start.open_
 obtain ⟨Be, dE, e5, -, -⟩ := rb.end_.cell_
 obtain ⟨Bt, dT, e6, -, -⟩ := RdS.open_ ([] : List (List Int)) rb.steps
 rw [oka.start.1] at e1
 rw [oka.end_.1] at e2
 rw [oka.steps] at e3
 rw [okb.start.1] at e4 h4
 rw [okb.end_.1] at e5
 rw [okb.steps] at e6
 subst e1 e2 e3 e4 e5 e6
 rw [oka.letters] at hbk
 have hk := oka.pos
 have hb4 := Lib.hid h4
 obtain ⟨x0, x1, x2⟩ := three1 w (.cells #[.int .i64 (k : Nat), .slice As n cs, .slice Ae n ce, .slice At k ct] 25) (.cells #[.int .i64 (k : Nat), .slice Bs m dS, .slice Be m dE, .slice Bt k dT] 25) (.cells #[.int .i64 0, .slice none 0 0, .slice none 0 0, .slice none 0 0] 25)
 have hBX : Below w.heap.size w (((w.alloc (.cells #[.int .i64 (k : Nat), .slice As n cs, .slice Ae n ce, .slice At k ct] 25)).alloc (.cells #[.int .i64 (k : Nat), .slice Bs m dS, .slice Be m dE, .slice Bt k dT] 25)).alloc (.cells #[.int .i64 0, .slice none 0 0, .slice none 0 0, .slice none 0 0] 25)) := (((Below.refl _ w).alloc (Nat.le_refl _) _).alloc (by simp) _).alloc (by simp; omega) _
 have hoka := Lib.hid oka
 have hokb := Lib.hid okb
 have hx0 := Lib.hid x0
 have hx1 := Lib.hid x1
 have hx2 := Lib.hid x2
 have hzX : (((w.alloc (.cells #[.int .i64 (k : Nat), .slice As n cs, .slice Ae n ce, .slice At k ct] 25)).alloc (.cells #[.int .i64 (k : Nat), .slice Bs m dS, .slice Be m dE, .slice Bt k dT] 25)).alloc (.cells #[.int .i64 0, .slice none 0 0, .slice none 0 0, .slice none 0 0] 25)).heap.size = w.heap.size + 3 := by simp
 clear ra rb oka okb x1 x2 h4
 go_enter Tryd.func160, Tryd.ntmps160
 go_upto_region 1 with fail
 generalize (((w.alloc (.cells #[.int .i64 (k : Nat), .slice As n cs, .slice Ae n ce, .slice At k ct] 25)).alloc (.cells #[.int .i64 (k : Nat), .slice Bs m dS, .slice Be m dE, .slice Bt k dT] 25)).alloc (.cells #[.int .i64 0, .slice none 0 0, .slice none 0 0, .slice none 0 0] 25)) = X at *
 have hT : Hid (Below X.heap.size X X) := Lib.hid (Below.refl _ _)
 refine D_begin (fun W => W.heap[w.heap.size]? = some (.cells #[.int .i64 (k : Nat), .slice As n cs, .slice Ae n ce, .slice At k ct] 25 (0, 0))) (fun _ => True) 99 (by kernel_rfl) ?_
 change wpAnyD _ _ _ _ _ _ _ _ _ _ X.drew
 simp only [List.size_toArray, List.length_cons, List.length_nil, Nat.reduceAdd, Array.replicate_succ, Array.replicate_zero, List.push_toArray, List.append_toArray, List.nil_append, List.cons_append]
 have hD10 : Below X.heap.size X X.drew := (Below.refl _ _).drew
 replace hT := Lib.hid (Below.then_ hT.out hD10)
 replace x0 := heap_keep x0 hD10
 have z_D10 := hD10.size; clear hD10
 generalize X.drew = D10 at *
 refine Dt 0 rfl ?_ (by first | exact x0s | exact x0) (fun _ => trivial) ?_ ?_
 rotate_left; · intro w1 hw1; obtain ⟨q0, q1, q2, q3⟩ := cells4 hw1; go_simp; try with_reducible rfl
 try simp only [Act.put, s_1, s_2, s_3, s_4, s_5, s_6]
 refine Dt 2 rfl ?_ (by first | exact x0s | exact x0) (fun _ => trivial) ?_ ?_
 rotate_left; · intro w1 hw1; obtain ⟨q0, q1, q2, q3⟩ := cells4 hw1; go_simp; try with_reducible rfl
 try simp only [Act.put, s_1, s_2, s_3, s_4, s_5, s_6]
 refine Dt 1 rfl ?_ (by first | exact x0s | exact x0) (fun _ => trivial) ?_ ?_
 rotate_left; · intro w1 hw1; obtain ⟨q0, q1, q2, q3⟩ := cells4 hw1; go_simp; try with_reducible rfl
 try simp only [Act.put, s_1, s_2, s_3, s_4, s_5, s_6]
 refine Dt 3 rfl ?_ (by first | exact x0s | exact x0) (fun _ => trivial) ?_ ?_
 rotate_left; · intro w1 hw1; obtain ⟨q0, q1, q2, q3⟩ := cells4 hw1; go_simp; try with_reducible rfl
 try simp only [Act.put, s_1, s_2, s_3, s_4, s_5, s_6]
 refine Dt 4 rfl ?_ (by first | exact x0s | exact x0) (fun _ => trivial) ?_ ?_
 rotate_left; · intro w1 hw1; obtain ⟨q0, q1, q2, q3⟩ := cells4 hw1; go_simp; try with_reducible rfl
 try simp only [Act.put, s_1, s_2, s_3, s_4, s_5, s_6]
 refine D_one (i := 5) (by kernel_rfl) rfl ?_
 intro K hK
 rw [if_pos (by rfl)]
 go_simp
 have hE1 : Below D10.heap.size D10 (D10.alloc (.cells #[.int .i64 0, .slice none 0 0, .slice none 0 0, .slice none 0 0] 77)) := (Below.refl _ _).alloc (Nat.le_refl _) _
 replace hT := Lib.hid (Below.then_ hT.out hE1)
 replace x0 := heap_keep x0 hE1
 have z5 := heap_alloc_new D10 (.cells #[.int .i64 0, .slice none 0 0, .slice none 0 0, .slice none 0 0] 77)
 obtain ⟨g5, e5⟩ : ∃ g, D10.heap.size = g := ⟨_, rfl⟩
 rw [e5] at z5 ⊢
 obtain ⟨p0, p1, p2, p3⟩ := cells4 z5
 obtain ⟨f0, f1, f2, f3⟩ := frozen4 z5
 have z_1 : D10.heap.size < (D10.alloc (.cells #[.int .i64 0, .slice none 0 0, .slice none 0 0, .slice none 0 0] 77)).heap.size := by simp
 clear hE1
 refine hK _ _ (by first | exact x0s | exact x0) (fun _ _ => trivial) ?_
 clear hK K
 try simp only [Act.put, s_1, s_2, s_3, s_4, s_5, s_6]
 generalize (D10.alloc (.cells #[.int .i64 0, .slice none 0 0, .slice none 0 0, .slice none 0 0] 77)) = D10_1 at *
 refine D_one (i := 6) (by kernel_rfl) rfl ?_
 intro K hK
 rw [if_pos (by rfl)]
 go_simp
 have hB1 := Lib.hid (hT.out.trans ((frame_set4 D10_1 g5 (.int .i64 (k : Nat)) (.slice As n cs) (.slice Ae n ce) (.slice At k ct)).below (B := X.heap.size) hT.out.size (fun q hq => by omega)))
 have x5 := Lib.hid (heap_set4 (.int .i64 (k : Nat)) (.slice As n cs) (.slice Ae n ce) (.slice At k ct) z5)
 have x0s := (frame_set4 D10_1 g5 (.int .i64 (k : Nat)) (.slice As n cs) (.slice Ae n ce) (.slice At k ct)).heap x0 (by omega)
 refine hK _ _ (by first | exact x0s | exact x0) (fun _ _ => trivial) ?_
 clear hK K
 try simp only [Act.put, s_1, s_2, s_3, s_4, s_5, s_6]
 refine D_one (i := 7) (by kernel_rfl) rfl ?_
 intro K hK
 rw [if_pos (by rfl)]
 go_simp
 refine hK _ _ (by first | exact x0s | exact x0) (fun _ _ => trivial) ?_
 clear hK K
 try simp only [Act.put, s_1, s_2, s_3, s_4, s_5, s_6]
 refine D_done (by kernel_rfl) ?_ _
 rename (∀ (a : Act) (w : World), Code.wp _ _ _ a w → _) => hK2
 refine hK2 _ _ ?_
 clear hK2
 generalize ((((D10_1.setCell ⟨g5, 0, none⟩ (.int .i64 (k : Nat))).setCell ⟨g5, 1, none⟩ (.slice As n cs)).setCell ⟨g5, 2, none⟩ (.slice Ae n ce)).setCell ⟨g5, 3, none⟩ (.slice At k ct)) = V1 at *
 clear hT x0 x0s z5 p0 p1 p2 p3 f0 f1 f2 f3
 obtain ⟨N, hN⟩ : ∃ N, n + m = N := ⟨_, rfl⟩
 have hzX1 := hB1.out.size
 have cX := Lib.hid (fun W (hW : Below X.heap.size X W) => (⟨(hW.block _ (lt_of_block hx0.out)).trans hx0.out, (hW.block _ (lt_of_block hx1.out)).trans hx1.out, (hW.block _ (lt_of_block hx2.out)).trans hx2.out⟩ : _ ∧ _ ∧ _))
 have hwX := Lib.hid (fun W (hW : Below X.heap.size X W) => hBX.trans (hW.mono hBX.size))
 obtain ⟨u0, u1, -⟩ := cX.out V1 hB1.out
 obtain ⟨q0, q1, q2, q3⟩ := cells4 u0
 obtain ⟨p0, p1, p2, p3⟩ := cells4 u1
 have hbe := Lib.hid (hbes.out V1 (hwX.out V1 hB1.out))
 have hpre : Hid ((besideA a b).steps = aftM a b n N k 0 0 0) := Lib.hid (by
  rw [aftM_zero]
  unfold besideA mkA msP
  rw [hoka.out.steps, hoka.out.start.1, hokb.out.start.1, hN])
 clear hbes u0 u1
 go_wp2_with fail
 refine hbe.out.mono ?_; rintro ev V2 ⟨⟨v, rfl, hW⟩, hb2⟩
 obtain ⟨s, e, t, us, lo, H, B1, B2, rfl, oS, oE, b1, b2, sB, sl, el, hQ, bH⟩ := hW
 have hal : Below V2.heap.size V2 (V2.alloc (.cells #[.int .i64 (k : Nat), s, e, t] 25)) := (Below.refl _ _).alloc (Nat.le_refl _) _
 rw [hpre.out] at hQ
 have hA : AftW X (k : Nat) g5 V2.heap.size B1 B2 H #[.int .i64 (k : Nat), .slice As n cs, .slice Ae n ce, .slice At k ct] s e t us lo (a.start ++ b.start) (a.end_ ++ b.end_) (aftM a b n N k 0 0 0) (V2.alloc (.cells #[.int .i64 (k : Nat), s, e, t] 25)) :=
  ⟨Below.then_ (Below.then_ hB1.out hb2) hal, heap_keep (heap_keep x5.out hb2) hal, heap_alloc_new _ _, oS.below hal, oE.below hal, hQ.kept hal, Nat.le_trans hzX1 b1, Nat.le_trans hzX1 b2, Nat.le_trans hzX1 bH, sB, sl, el⟩
 have lS : (a.start ++ b.start).length = N := by rw [List.length_append, hoka.out.start.1, hokb.out.start.1]; exact hN
 have lE : (a.end_ ++ b.end_).length = N := by rw [List.length_append, hoka.out.end_.1, hokb.out.end_.1]; exact hN
 obtain ⟨S1, cS, eS⟩ := own_form oS
 obtain ⟨E1, cE, eE⟩ := own_form oE
 obtain ⟨T1, cT, eT⟩ := own_form hQ.outer
 rw [lS] at eS
 rw [lE] at eE
 rw [aftM_len] at eT
 subst eS eE eT
 have hN8 : N ≤ 800 := by omega
 replace lS := Lib.hid lS
 replace lE := Lib.hid lE
 replace hA := Lib.hid hA
 clear hal hb2 oS oE hQ b1 b2 sB sl el bH q0 q1 q2 q3 p0 p1 p2 p3 hbe x5
 go_upto_region 3 with fail
 generalize V2.alloc (.cells #[.int .i64 (k : Nat), .slice S1 N cS, .slice E1 N cE, .slice T1 k cT] 25) = V3 at *
 generalize V2.heap.size = g7 at *
 obtain ⟨q0, q1, q2, q3⟩ := cells4 hA.out.box
 obtain ⟨V4, hclr, oE4, hF4⟩ := own_clear (n := n) hA.out.end_ lE.out (by omega)
 rw [putAt_app hoka.out.end_.1] at oE4
 have hslice := run_upto E1 N cE n V3 (by omega) (by have h := hA.out.end_; unfold OwnI at h; rcases h.2 with ⟨e, h2⟩ | ⟨g, cap, cur, e, h1, h2, h3, h4⟩ <;> (simp only [Value.slice.injEq] at e; have := lE.out; omega))
 have hA4 := Lib.hid (hA.out.putE hF4 oE4)
 clear hA oE4 hF4
 go_upto_region 4 with fail
 clear hclr hslice q0 q1 q2 q3
 obtain ⟨u0, u1, -⟩ := cX.out V4 hA4.out.low
 obtain ⟨q0, q1, q2, q3⟩ := cells4 u0
 obtain ⟨p0, p1, p2, p3⟩ := cells4 u1
 have hd := Lib.hid (hdot.out V4 (hwX.out V4 hA4.out.low))
 have hemb := dotL_bd a.start a.end_
 have hSz := Lib.hid (fun i (hi : i < m) => aftS_set (s1 := a.start) (s2 := b.start) (emp := dotL a.start a.end_) (i := i) (by rw [hokb.out.start.1]; exact hi))
 have hSl := Lib.hid (fun i => aftS_len a.start b.start (dotL a.start a.end_) i)
 have hSe : Hid (aftS a.start b.start (dotL a.start a.end_) m = a.start ++ b.start.map (mulP (dotL a.start a.end_))) := Lib.hid (by rw [← hokb.out.start.1]; exact aftS_end _ _ _)
 have hA40 : Hid (AftW X (k : Nat) g5 g7 B1 B2 H #[.int .i64 (k : Nat), .slice As n cs, .slice Ae n ce, .slice At k ct] (.slice S1 N cS) (.slice E1 N cE) (.slice T1 k cT) us lo (aftS a.start b.start (dotL a.start a.end_) 0) (List.replicate n 0 ++ b.end_) (aftM a b n N k 0 0 0) V4) := Lib.hid (by rw [aftS_zero]; exact hA4.out)
 have hla := Lib.hid hoka.out.start.1
 have hbd := Lib.hid (getD_bd hokb.out.start.2)
 clear u0 u1 hA4 hdot
 generalize hemp : dotL a.start a.end_ = emp at *
 replace hemp := Lib.hid hemp
 go_wp2_with fail
 refine hd.out.mono ?_; rintro ev V5 ⟨rfl, hb5⟩
 have hA5 := Lib.hid (hA40.out.kept hb5)
 clear hA40 hb5 hd q0 q1 q2 q3 p0 p1 p2 p3
 obtain ⟨u0, u1, -⟩ := cX.out V5 hA5.out.low
 obtain ⟨p0, p1, p2, p3⟩ := cells4 u1
 have em1 := hemb.1
 have em2 := hemb.2
 clear u0 u1 hemb
 go_wp2
 go_loopw [37] (fun i wr => ∃ q : Nat, q ≤ m ∧ i = .int .i64 q ∧ Hid (AftW X (k : Nat) g5 g7 B1 B2 H #[.int .i64 (k : Nat), .slice As n cs, .slice Ae n ce, .slice At k ct] (.slice S1 N cS) (.slice E1 N cE) (.slice T1 k cT) us lo (aftS a.start b.start emp q) (List.replicate n 0 ++ b.end_) (aftM a b n N k 0 0 0) wr)) (fun i _ => m - (intOf i).toNat)
 case atStart => exact ⟨0, Nat.zero_le _, rfl, hA5⟩
 case round =>
  obtain ⟨q, hq, rfl, hA⟩ := hrel
  by_cases hlt : q < m
  ·obtain ⟨bb, ob, rfl, hcb⟩ := hb4.out q hlt
   have hbw := hwX.out wr hA.out.low
   replace hcb := (hbw.cell (World.block_lt_of_cell? w _ hcb)).trans hcb
   obtain ⟨q0, q1, q2, q3⟩ := cells4 hA.out.box
   have hs1 := hSz.out q hlt
   have ⟨v1, v2⟩ := hbd.out q
   generalize b.start.getD q 0 = v at *
   obtain ⟨pp, hpp⟩ : ∃ pp, n + q = pp := ⟨_, rfl⟩
   rw [hla.out, hpp] at hs1
   obtain ⟨gS, cS', eS', -, -⟩ := World.ownsRow.form hA.out.start (by rw [hSl.out, hla.out, hokb.out.start.1]; omega)
   simp only [Value.slice.injEq] at eS'
   obtain ⟨rfl, -, rfl⟩ := eS'
   obtain ⟨n1, n2⟩ := hA.out.start.num (k := pp) (by rw [hSl.out, hla.out, hokb.out.start.1]; omega)
   have hA6 := Lib.hid (fun x => hA.out.putS (Frame.setCell (F := fun g => (Value.slice (some ⟨gS, 0, none⟩) N cS).ownBlock = some g) wr gS pp (.int .i64 x) rfl) (hA.out.start.put pp x))
   have hA7 := Lib.hid (hA6.out (mulP emp v))
   rw [hs1] at hA7
   have ⟨m1, m2⟩ := mul_bd em1 em2 v1 v2
   have y1 : (q : Int) < (m : Int) := by omega
   have y0 : (0 : Int) ≤ (q : Int) := by omega
   have eP : (n : Int) + (q : Int) = (pp : Int) := by omega
   have wP : IntKind.i64.wrap ((n : Int) + (q : Int)) = (pp : Int) := by rw [IntKind.wrap_i64]; omega
   have z1 : (pp : Int) < (N : Int) := by omega
   have z0 : (0 : Int) ≤ (pp : Int) := by omega
   have tm : (emp * v).tmod 65521 = mulP emp v := Int.tmod_eq_emod_of_nonneg m1
   have wM : IntKind.i64.wrap (emp * v) = emp * v := IntWalk.i64_in _ ⟨by omega, by omega⟩
   have ⟨mb1, mb2⟩ := mulP_bd emp v
   generalize mulP emp v = mv at *
   generalize (aftS a.start b.start emp q).getD pp 0 = old at *
   replace hs1 := Lib.hid hs1
   replace hpp := Lib.hid hpp
   clear hA hA6
   go_wp2
   go_roundw
   case rel => exact ⟨q + 1, by omega, by go_num, hA7⟩
   case measure => simp [intOf]; omega
  ·obtain rfl : q = m := by omega
   rw [hSe.out] at hA
   obtain ⟨u0, u1, -⟩ := cX.out wr hA.out.low
   obtain ⟨q0, q1, q2, q3⟩ := cells4 u0
   clear u0 u1 hA5 p0 p1 p2 p3
   go_wp2
   go_loopw [55] (fun i wr => ∃ x : Nat, x ≤ k ∧ i = .int .i64 x ∧ Hid (AftW X (k : Nat) g5 g7 B1 B2 H #[.int .i64 (k : Nat), .slice As n cs, .slice Ae n ce, .slice At k ct] (.slice S1 N cS) (.slice E1 N cE) (.slice T1 k cT) us lo (a.start ++ b.start.map (mulP emp)) (List.replicate n 0 ++ b.end_) (aftM a b n N k x 0 0) wr)) (fun i _ => k - (intOf i).toNat)
   case atStart => exact ⟨0, Nat.zero_le _, rfl, hA⟩
   case round =>
    obtain ⟨x, hx, rfl, hA⟩ := hrel
    rename World => w2
    by_cases hxk : x < k
    ·obtain ⟨u0, u1, -⟩ := cX.out w2 hA.out.low
     obtain ⟨q0, q1, q2, q3⟩ := cells4 u0
     obtain ⟨p0, p1, p2, p3⟩ := cells4 hA.out.eng
     have hbb := Lib.hid (hbk.out x hxk w2 (hwX.out w2 hA.out.low))
     have hbl := Lib.hid (show (backL (a.steps.getD x []) a.end_).length = n from (backL_len _ _).trans (hoka.out.row_ok hxk).1)
     have hbn := Lib.hid (getD_bd (backL_bd (a.steps.getD x []) a.end_))
     have hset := Lib.hid (fun i kk (hi : i < n) (hk : kk < q) => @aftM_set a b n q k x i kk hxk hi hk)
     have hget := Lib.hid (fun i kk => @aftM_get a b n N k x i kk x hxk)
     have y1 : (x : Int) < (k : Int) := by omega
     have y0 : (0 : Int) ≤ (x : Int) := by omega
     clear u0 u1
     generalize backL (a.steps.getD x []) a.end_ = ends at *
     go_wp2_with fail
     refine hbb.out.mono ?_; rintro ev W6 ⟨⟨ve, rfl, o6⟩, hb6⟩
     obtain ⟨A6, c6, e6⟩ := own_form o6
     rw [hbl.out] at e6
     subst e6
     have hlot := hA.out.mats.top
     rw [aftM_len] at hlot
     have hA6 := Lib.hid (hA.out.kept hb6)
     have o6' := Lib.hid o6
     obtain ⟨u0, u1, -⟩ := cX.out W6 hA6.out.low
     obtain ⟨p0, p1, p2, p3⟩ := cells4 u1
     clear o6 hA hb6 q0 q1 q2 q3 u0 u1 hbb
     go_wp2
     go_loopw [65] (fun i wr => ∃ y : Nat, y ≤ n ∧ i = .int .i64 y ∧ Hid (OwnI wr w2.heap.size (.slice A6 n c6) ends) ∧ Hid (AftW X (k : Nat) g5 g7 B1 B2 H #[.int .i64 (k : Nat), .slice As n cs, .slice Ae n ce, .slice At k ct] (.slice S1 N cS) (.slice E1 N cE) (.slice T1 k cT) us lo (a.start ++ b.start.map (mulP emp)) (List.replicate n 0 ++ b.end_) (aftM a b n N k x y 0) wr)) (fun i _ => n - (intOf i).toNat)
     case atStart => exact ⟨0, Nat.zero_le _, rfl, o6', hA6⟩
     case round =>
      obtain ⟨y, hy, rfl, hO, hA⟩ := hrel
      rename World => w3
      by_cases hyn : y < n
      ·obtain ⟨gO, cO, eO, -, -⟩ := World.ownsRow.form hO.out (by rw [hbl.out]; omega)
       simp only [Value.slice.injEq] at eO
       obtain ⟨rfl, -, rfl⟩ := eO
       obtain ⟨n1, -⟩ := hO.out.num (k := y) (by rw [hbl.out]; exact hyn)
       obtain ⟨u0, u1, -⟩ := cX.out w3 hA.out.low
       obtain ⟨p0, p1, p2, p3⟩ := cells4 u1
       have ⟨v1, v2⟩ := hbn.out y
       have hse := Lib.hid (fun kk (hk : kk < q) => hset.out y kk hyn hk)
       generalize hends : ends.getD y 0 = v at *
       have x1 : (y : Int) < (n : Int) := by omega
       have x0 : (0 : Int) ≤ (y : Int) := by omega
       replace hends := Lib.hid hends
       clear u0 u1
       go_wp2
       go_loopw [73] (fun i wr => ∃ kk : Nat, kk ≤ q ∧ i = .int .i64 kk ∧ Hid (OwnI wr w2.heap.size (.slice (some ⟨gO, 0, none⟩) n c6) ends) ∧ Hid (AftW X (k : Nat) g5 g7 B1 B2 H #[.int .i64 (k : Nat), .slice As n cs, .slice Ae n ce, .slice At k ct] (.slice S1 N cS) (.slice E1 N cE) (.slice T1 k cT) us lo (a.start ++ b.start.map (mulP emp)) (List.replicate n 0 ++ b.end_) (aftM a b n N k x y kk) wr)) (fun i _ => q - (intOf i).toNat)
       case atStart => exact ⟨0, Nat.zero_le _, rfl, hO, hA⟩
       case round =>
        obtain ⟨kk, hkk, rfl, hO, hA⟩ := hrel
        rename World => w4
        by_cases hkq : kk < q
        ·obtain ⟨bb, ob, rfl, hcb⟩ := hb4.out kk hkq
         have hbw := hwX.out w4 hA.out.low
         replace hcb := (hbw.cell (World.block_lt_of_cell? w _ hcb)).trans hcb
         obtain ⟨q0, q1, q2, q3⟩ := cells4 hA.out.box
         have ⟨t1, t2⟩ := hbd.out kk
         have hse1 := hse.out kk hkq
         generalize b.start.getD kk 0 = tt at *
         obtain ⟨pp, hpp⟩ : ∃ pp, n + kk = pp := ⟨_, rfl⟩
         obtain ⟨g1, c1, g2, c2, g3, c3, e1, k1, k2, k3, k4, hA9⟩ := hA.out.num (hget.out y kk) (mat_row (show y < N by omega)) (k := pp) (by simp; omega)
         rw [aftM_len] at e1
         simp only [Value.slice.injEq, true_and] at e1
         obtain ⟨rfl, rfl⟩ := e1
         rw [mat_len] at k1
         rw [List.length_map, List.length_range] at k2
         obtain ⟨hA10, hF10⟩ := hA9 (mulP v tt)
         rw [hpp, hN] at hse1
         rw [hse1] at hA10
         have hO10 := Lib.hid (hF10.owns hO.out (fun g hg hF => by have := (hO.out.lt g hg).1; rw [aftM_len] at hF; omega))
         have ⟨m1, m2⟩ := mul_bd v1 v2 t1 t2
         have z1 : (kk : Int) < (q : Int) := by omega
         have z0 : (0 : Int) ≤ (kk : Int) := by omega
         have eP : (n : Int) + (kk : Int) = (pp : Int) := by omega
         have wP : IntKind.i64.wrap ((n : Int) + (kk : Int)) = (pp : Int) := by rw [IntKind.wrap_i64]; omega
         have z3 : (pp : Int) < (N : Int) := by omega
         have z4 : (0 : Int) ≤ (pp : Int) := by omega
         have z5 : (y : Int) < (N : Int) := by omega
         have tm : (v * tt).tmod 65521 = mulP v tt := Int.tmod_eq_emod_of_nonneg m1
         have wM : IntKind.i64.wrap (v * tt) = v * tt := IntWalk.i64_in _ ⟨by omega, by omega⟩
         have ⟨mb1, mb2⟩ := mulP_bd v tt
         generalize mulP v tt = mv at *
         generalize ((List.range N).map (aftF a b n x y kk x y)).getD pp 0 = old at *
         replace hA10 := Lib.hid hA10
         replace hse1 := Lib.hid hse1
         replace hpp := Lib.hid hpp
         clear hA hA9 hF10 hO
         go_wp2
         go_roundw
         case rel => exact ⟨kk + 1, by omega, by go_num, hO10, hA10⟩
         case measure => simp [intOf]; omega
        ·obtain rfl : kk = q := by omega
         have hrow := @aftM_row a b n kk k x y
         rw [hN] at hrow
         rw [hrow] at hA
         replace hrow := Lib.hid hrow
         go_wp2
         go_roundw
         case rel => exact ⟨y + 1, by omega, by go_num, hO, hA⟩
         case measure => simp [intOf]; omega
      ·obtain rfl : y = n := by omega
       have hrow := @aftM_let a b y q k x
       rw [hN] at hrow
       rw [hrow] at hA
       replace hrow := Lib.hid hrow
       go_wp2
       go_roundw
       case rel => exact ⟨x + 1, by omega, by go_num, hA⟩
       case measure => simp [intOf]; omega
    ·obtain rfl : x = k := by omega
     rw [aftM_end] at hA
     obtain ⟨q0, q1, q2, q3⟩ := cells4 hA.out.box
     obtain ⟨-, -, u2⟩ := cX.out w2 hA.out.low
     obtain ⟨p0, p1, p2, p3⟩ := cells4 u2
     obtain ⟨f0, f1, f2, f3⟩ := frozen4 u2
     replace u2 := Lib.hid u2
     go_wp2
     refine bodyPost_ret (res_c1 rfl _ _ (w.heap.size + 1 + 1) 25 #[.int .i64 (x : Nat), .slice S1 N cS, .slice E1 N cE, .slice T1 x cT] (0, 0) _ rfl (heap_set4 _ _ _ _ u2.out) rfl rfl rfl) rfl ?_
     have hFr := frame_set4 w2 (w.heap.size + 1 + 1) (.int .i64 (x : Nat)) (.slice S1 N cS) (.slice E1 N cE) (.slice T1 x cT)
     have ok := after_ok hoka.out hokb.out
     have haf : afterA a b = ⟨(x : Nat), a.start ++ b.start.map (mulP emp), List.replicate n 0 ++ b.end_, msP (aftE a b n) N x⟩ := by
      unfold afterA mkA msP
      rw [hoka.out.steps, hoka.out.start.1, hokb.out.start.1, hN, hemp.out]
     rw [haf]
     refine ⟨⟨_, _, _, _, _, _, _, _, _, rfl, ?_, ?_, ?_⟩, (hwX.out w2 hA.out.low).trans (hFr.below (by have := hBX.size; have := hA.out.low.size; omega) (fun g hg => by omega))⟩
     ·exact OwnI.rd (show OwnI _ B1 _ _ from set4_own u2.out hA.out.start (.int .i64 (x : Nat)) (.slice S1 N cS) (.slice E1 N cE) (.slice T1 x cT)) (by simp only [List.length_append, List.length_map]; rw [hla.out, hokb.out.start.1]; omega)
     ·exact OwnI.rd (show OwnI _ B2 _ _ from set4_own u2.out hA.out.end_ (.int .i64 (x : Nat)) (.slice S1 N cS) (.slice E1 N cE) (.slice T1 x cT)) (by simp only [List.length_append, List.length_replicate]; rw [hokb.out.end_.1]; omega)
     ·exact (set4_ownQ u2.out hA.out.mats (.int .i64 (x : Nat)) (.slice S1 N cS) (.slice E1 N cE) (.slice T1 x cT)).rd (by rw [msP_len]; omega) (fun mm hmm => by
       obtain ⟨z, -, rfl⟩ := List.mem_map.1 hmm
       exact ⟨by rw [mat_len]; omega, fun r hr => by obtain ⟨i, -, rfl⟩ := List.mem_map.1 hr; simp; omega⟩)
end Go.Proofs.YtlpldfocljnpnaaDoor
namespace Go.Proofs.YtlpldfocljnpnaaDoor
open Go.RowKit Go.Shelf
def kwSum : ByteArray := ⟨#[115, 117, 109]⟩
def kwBoth : ByteArray := ⟨#[98, 111, 116, 104]⟩
def kwProduct : ByteArray := ⟨#[112, 114, 111, 100, 117, 99, 116]⟩
theorem both_ex {a b : Aut} (h : bothA a b = 0) : ∃ k : Nat, okA a k a.start.length ∧ okA b k b.start.length ∧ a.start.length ≤ 12 ∧ b.start.length ≤ 12 ∧ a.letters = (k : Nat) ∧ b.letters = (k : Nat) := by
 obtain ⟨h1, h2, h3⟩ := bothA_ok h
 obtain ⟨k, ok, h12, hk⟩ := checkA_ex h1
 obtain ⟨k', ok', h12', hk'⟩ := checkA_ex h2
 obtain rfl : k' = k := by omega
 exact ⟨k', ok, ok', h12, h12', hk, hk'⟩
theorem make_product {a b : Aut} {sa ea ta sb eb tb : Value} (h0 : bothA a b = 0) (w : World) (ra : RdA w sa ea ta a) (rb : RdA w sb eb tb b) : ∃ k N : Nat, okA (afterA a b) k N ∧ N ≤ 999 ∧ ∀ W, Below w.heap.size w W → Calls Tryd.prog 160 #[.agg #[.int .i64 a.letters, sa, ea, ta], .agg #[.int .i64 b.letters, sb, eb, tb]] W fun r w' => (∃ A1 A2 A3 n1 n2 n3 c1 c2 c3, r = .returned (.agg #[.int .i64 (k : Nat), .slice A1 n1 c1, .slice A2 n2 c2, .slice A3 n3 c3]) ∧ RdA w' (.slice A1 n1 c1) (.slice A2 n2 c2) (.slice A3 n3 c3) (afterA a b)) ∧ Below W.heap.size W w' := by
 obtain ⟨k, oka, okb, h1, h2, e1, e2⟩ := both_ex h0
 refine ⟨k, _, after_ok oka okb, by omega, fun W hW => ?_⟩
 rw [e1, e2]
 exact after_any oka okb (by omega) (by omega) sa ea ta sb eb tb W (ra.below hW (Nat.le_refl _)) (rb.below hW (Nat.le_refl _))
theorem ProductA_any (a b : Aut) (sa ea ta sb eb tb : Value) (w : World) (ra : RdA w sa ea ta a) (rb : RdA w sb eb tb b) (hJ : WaysAt w kwProduct 160) :
  Calls Tryd.prog 34 #[.agg #[.int .i64 a.letters, sa, ea, ta], .agg #[.int .i64 b.letters, sb, eb, tb]] w (ResA (joinP a b (afterA a b)) w) := by
 have hjo := Lib.hid (fun W (hW : Below w.heap.size w W) => joinedA_any kwProduct 160 (enters_of Tryd.func160 (by kernel_rfl) rfl) a b (afterA a b) sa ea ta sb eb tb W (ra.below hW (Nat.le_refl _)) (rb.below hW (Nat.le_refl _)) (hJ.below hW) (fun h0 => make_product h0 W (ra.below hW (Nat.le_refl _)) (rb.below hW (Nat.le_refl _))))
 obtain ⟨As, cs, rfl, -, -⟩ := ra.start.cell_
 obtain ⟨Ae, ce, rfl, -, -⟩ := ra.end_.cell_
 obtain ⟨At, ct, rfl, -, -⟩ := RdS.open_ ([] : List (List Int)) ra.steps
 obtain ⟨Bs, dS, rfl, -, -⟩ := rb.start.cell_
 obtain ⟨Be, dE, rfl, -, -⟩ := rb.end_.cell_
 obtain ⟨Bt, dT, rfl, -, -⟩ := RdS.open_ ([] : List (List Int)) rb.steps
 clear ra rb hJ
 generalize joinP a b (afterA a b) = p at *
 generalize a.letters = l1 at *
 generalize b.letters = l2 at *
 generalize a.start.length = n1 at *
 generalize a.end_.length = n2 at *
 generalize a.steps.length = n3 at *
 generalize b.start.length = m1 at *
 generalize b.end_.length = m2 at *
 generalize b.steps.length = m3 at *
 obtain ⟨x0, x1, x2⟩ := three1 w (.cells #[.int .i64 l1, .slice As n1 cs, .slice Ae n2 ce, .slice At n3 ct] 25) (.cells #[.int .i64 l2, .slice Bs m1 dS, .slice Be m2 dE, .slice Bt m3 dT] 25) (.cells #[.int .i64 0, .slice none 0 0, .slice none 0 0, .slice none 0 0] 25)
 have hBX : Below w.heap.size w (((w.alloc (.cells #[.int .i64 l1, .slice As n1 cs, .slice Ae n2 ce, .slice At n3 ct] 25)).alloc (.cells #[.int .i64 l2, .slice Bs m1 dS, .slice Be m2 dE, .slice Bt m3 dT] 25)).alloc (.cells #[.int .i64 0, .slice none 0 0, .slice none 0 0, .slice none 0 0] 25)) := (((Below.refl _ w).alloc (Nat.le_refl _) _).alloc (by simp) _).alloc (by simp; omega) _
 obtain ⟨q0, q1, q2, q3⟩ := cells4 x0
 obtain ⟨p0, p1, p2, p3⟩ := cells4 x1
 replace x2 := Lib.hid x2
 go_enter Tryd.func34, Tryd.ntmps34
 go_wp2_with fail
 generalize (((w.alloc (.cells #[.int .i64 l1, .slice As n1 cs, .slice Ae n2 ce, .slice At n3 ct] 25)).alloc (.cells #[.int .i64 l2, .slice Bs m1 dS, .slice Be m2 dE, .slice Bt m3 dT] 25)).alloc (.cells #[.int .i64 0, .slice none 0 0, .slice none 0 0, .slice none 0 0] 25)) = X at *
 refine (hjo.out X hBX).mono ?_; rintro e W3 ⟨x, rfl, hF, hb3⟩
 obtain ⟨F1, F2, F3, f1, f2, f3, g1, g2, g3, rfl⟩ := hF.form
 have x2r := Lib.hid (heap_keep x2.out hb3)
 clear p0 p1 p2 p3
 obtain ⟨p0, p1, p2, p3⟩ := cells4 x2r.out
 obtain ⟨z0, z1, z2, z3⟩ := frozen4 x2r.out
 have hB3 := Lib.hid (Below.then_ hBX hb3)
 have hF2 := Lib.hid (hF.base (hBX.size))
 obtain ⟨bb, er⟩ := p
 simp only [] at hF2 ⊢
 clear hF hb3 hBX x0 x1
 go_wp2_with fail
 refine bodyPost_ret (res_ct rfl _ _ (w.heap.size + 2) 25 #[.int .i64 bb.letters, .slice F1 f1 g1, .slice F2 f2 g2, .slice F3 f3 g3] (0, 0) _ rfl (heap_set4 _ _ _ _ x2r.out) rfl rfl rfl) rfl ?_
 exact resA_set (p := (bb, er)) x2r.out (by omega) hB3.out hF2.out (Nat.le_refl _)
end Go.Proofs.YtlpldfocljnpnaaDoor
namespace Go.Proofs.YtlpldfocljnpnaaDoor
open Go Go.ChangeShapes Go.WideShapes Go.ChangeAt Go.WideMaps Go.WideElems Go.RowKit Go.Shelf
def nmBeside : List UInt8 := [114, 111, 117, 110, 100, 101, 108, 97, 121, 47, 115, 101, 114, 105, 101, 115, 46, 98, 101, 115, 105, 100, 101]
def nmTimes : List UInt8 := [114, 111, 117, 110, 100, 101, 108, 97, 121, 47, 115, 101, 114, 105, 101, 115, 46, 116, 105, 109, 101, 115]
def nmAfter : List UInt8 := [114, 111, 117, 110, 100, 101, 108, 97, 121, 47, 115, 101, 114, 105, 101, 115, 46, 97, 102, 116, 101, 114]
def waysD : DataW (List UInt8) := .map [(.string [98, 111, 116, 104], .agg [.held nmTimes]), (.string [112, 114, 111, 100, 117, 99, 116], .agg [.held nmAfter]), (.string [115, 117, 109], .agg [.held nmBeside])]
theorem elem_ways {W : World} {m : Nat} {v : Value} {y : DataW (List UInt8) × List MemPlace} {c : UInt8} {l : List UInt8} {tf : Nat}
  (h : elemAt (funcToken Tryd.prog) Tryd.prog W 0 (fun _ => true) true m 139 v = some y) (hy : y.1 = .agg [.held (c :: l)])
  (ht : ((List.range Tryd.prog.funcs.size).filter fun f => (Tryd.prog.funcs[f]?).any (·.name.toUTF8.data.toList == c :: l)) = [tf]) :
  v = .agg #[.func (.func tf) #[] #[]] := by
 unfold elemAt at h
 split at h
 ·rename_i hf
  obtain ⟨y0, n, hx, hlen, h0⟩ := trod_struct1 Tryd.underlying139 h
  have c2 : Tryd.prog.cellsOf 139 = 1 := by kernel_rfl
  have ca : Tryd.prog.cellsOf 97 = 1 := by kernel_rfl
  rw [c2] at hlen
  cases v with
  | agg cs =>
   obtain ⟨lc⟩ := cs
   simp only [Value.cells] at hlen h0
   match lc, hlen with
   | [a], _ =>
    simp only [ca, List.drop_zero, List.take_succ_cons, List.take_zero] at h0
    rw [hx] at hy
    simp only [DataW.agg.injEq, List.cons.injEq, and_true] at hy
    obtain ⟨y0a, y0b⟩ := y0
    subst hy
    obtain rfl := func_of_trod Tryd.underlying97 ht h0
    rfl
  | _ => simp [Value.formed, Tryd.underlying139] at hf
 ·cases h
structure Ways (w : World) : Prop where
 sum : WaysAt w kwSum 79
 both : WaysAt w kwBoth 159
 product : WaysAt w kwProduct 160
theorem Ways.below {W W' : World} (h : Ways W) (hb : Below W.heap.size W W') : Ways W' := ⟨h.sum.below hb, h.both.below hb, h.product.below hb⟩
theorem ways_of_laid {W : World} (h : laidMetH Tryd.prog [("roundelay/series.ways", Rows.laid_roundelay_series_ways)] W) : Ways W := by
 obtain ⟨g, t, cs, fuel, p, hg, ht, hv, hd⟩ := h.funcs (n := "roundelay/series.ways") (List.mem_cons_self ..)
 obtain rfl := Option.some.inj ((show Tryd.prog.globalNamed "roundelay/series.ways" = some 0 by kernel_rfl).symm.trans hg)
 obtain rfl := Option.some.inj ((show (Tryd.prog.globals[0]?).map (·.type) = some 140 by kernel_rfl).symm.trans ht)
 have hd' : DataW.trod (funcToken Tryd.prog) Tryd.prog W 0 (fun _ => true) true fuel 140 cs.toList = some (waysD, p) := hd
 rcases open_map Tryd.underlying140 hd' with ⟨_, hx⟩ | ⟨bm, es, clock, m, rfl, hcs, hb, _, F, hx⟩
 ·simp [waysD] at hx
 simp only [Prod.mk.injEq] at hx
 have hcell : W.cell? ⟨0, 0, none⟩ = some (.map (some bm)) := by
  have := World.var?_cell hg hv 0
  rw [Array.eq_one_of_toList hcs] at this
  simpa using this
 have hlt : bm < W.heap.size := (Array.getElem?_eq_some_iff.1 hb).1
 have key : ∀ (s : ByteArray) (c : UInt8) (l : List UInt8) (tf : Nat), s.size ≤ maxLen → waysD.atKey (.string s.data.toList) .nil = .agg [.held (c :: l)] →
   ((List.range Tryd.prog.funcs.size).filter fun f => (Tryd.prog.funcs[f]?).any (·.name.toUTF8.data.toList == c :: l)) = [tf] → WaysAt W s tf := by
  intro s c l tf hs hat h1
  refine ⟨bm, hcell, hlt, fun W' e => ?_⟩
  have zero : (zeroValue 139).run Tryd.prog W' = .ok (.agg #[.nilFunc]) W' := by kernel_rfl
  rcases fit_lookup (w := W') (string_law Tryd.underlying9) Tryd.underlying140 zero (e.trans hb) F (keyOf_string_mk (s := s) Tryd.underlying9 hs) with ⟨_, hz⟩ | ⟨v, y, hrun, hR, hy, _⟩
  ·have := hz .nil
   rw [← hx.1, hat] at this
   cases this
  ·have := hy .nil
   rw [← hx.1, hat] at this
   rw [elem_ways hR this.symm h1] at hrun
   exact hrun
 exact ⟨key kwSum _ _ _ (by decide) (by rfl) (by kernel_rfl), key kwBoth _ _ _ (by decide) (by rfl) (by kernel_rfl), key kwProduct _ _ _ (by decide) (by rfl) (by kernel_rfl)⟩
section
variable {H : Type} {enc : TypeId × Value → H} {P : Program}
theorem post_of_belowA {f : Func} {s : ChangeSpec} {apart fresh handsOn again : Bool} {W W' : World} {args : Array Value} {v : Value} {ds gs : List (DataW H)} {before pa pv : List MemPlace}
  (hW : DataW.Whole enc P f.params.toList s.vars apart W args.toList ds gs before)
  (hres : ∀ (b : Nat) (sp : Nat → Bool) (hd : Bool), DataW.TrodAll enc P W' b sp hd f.resultTypes.toList (v.resultList f.resultTypes.size) (s.fn H (ds ++ gs)).results [])
  (hargs : ∀ sp : Nat → Bool, (∀ p ∈ before, sp p.block = true) → DataW.TrodAll enc P W' 0 sp true f.params.toList args.toList (s.fn H (ds ++ gs)).args pa)
  (hvars : ∀ sp : Nat → Bool, (∀ p ∈ before, sp p.block = true) → DataW.TrodVars enc P W' sp s.vars (s.fn H (ds ++ gs)).vars pv)
  (hps : before = pa ++ pv) (hb : Below W.heap.size W W')
  (hok : ∀ (j : Nat) (t : TypeId) (r : Value), f.resultTypes[j]? = some t → (v.resultList f.resultTypes.size)[j]? = some r → Value.okWide P W' .any 0 t r) :
  s.post enc P f apart fresh handsOn again W args v W' := by
 have hlt : ∀ p ∈ before, p.block < W.heap.size := fun p hp => hW.lt p hp
 have hold : ∀ p ∈ before, (fun b => decide (b < W.heap.size)) p.block = true := fun p hp => by simpa using hlt p hp
 refine ⟨ds, gs, before, [], pa, pv, hW, hres _ _ _, hargs _ hold, hvars _ hold, World.keptBut_mono (fun p hp => ⟨hp, ?_⟩) (hb.frame (· ∈ before)), fun _ => ?_⟩
 ·rw [hps, List.mem_append] at hp
  exact Or.inr hp
 ·obtain ⟨_, _, _, _, _, hz, hn⟩ := hW
  refine ⟨hok, _, _, ([] ++ pa) ++ pv, ⟨[] ++ pa, pv, trodAll_append (hargs _ (fun _ _ => rfl)) (hres _ _ _), hvars _ (fun _ _ => rfl), rfl, ?_, ?_⟩, ?_⟩
  ·intro b off hp
   have hin : MemPlace.cell b off ∈ before := by rw [hps]; simpa using hp
   rw [hb.frozen (hlt _ hin)]
   exact hz b off hin
  ·intro ha
   have := hn ha
   rw [hps] at this
   simpa using this
  ·intro p hp _
   rw [hps]
   simpa using hp
end
end Go.Proofs.YtlpldfocljnpnaaDoor
namespace Go.Proofs.YtlpldfocljnpnaaDoor
open Go Go.ChangeShapes Go.WideShapes Go.ChangeAt Go.WideMaps Go.WideElems Go.RowKit Go.Shelf
theorem ownA_ : ownKnob Tryd.prog.godebug = none := by kernel_rfl
theorem door_metA (os : Os) (args : Array Value) : laidMetH Tryd.prog [("roundelay/series.ways", Rows.laid_roundelay_series_ways)] ((World.doorLaid Tryd.prog 32 os).forCall (fun _ _ => 0) ⟨#[], args, []⟩).memory :=
 laidMetH_of_parts3 (fuel := 8) (laidMet_of_run' 8 (by kernel_rfl) (by kernel_rfl)) (by kernel_rfl) (by kernel_rfl)
end Go.Proofs.YtlpldfocljnpnaaDoor
namespace Go.Proofs.YtlpldfocljnpnaaDoor
open Go Go.ChangeShapes Go.WideShapes Go.ChangeAt Go.WideMaps Go.WideElems Go.RowKit Go.Shelf
theorem laidOutA : laidOutB Tryd.prog = true := by kernel_rfl
theorem readA : Tryd.prog.readableRec 25 = true := by kernel_rfl
theorem sizeA_ : 25 < Tryd.prog.types.size := by
 have h : decide (25 < Tryd.prog.types.size) = true := by kernel_rfl
 simpa only [decide_eq_true_eq] using h
theorem cellsIA : Tryd.prog.cellsOf 3 = 1 := by kernel_rfl
theorem cellsLA : Tryd.prog.cellsOf 22 = 1 := by kernel_rfl
theorem cellsMA : Tryd.prog.cellsOf 59 = 1 := by kernel_rfl
theorem cellsTA : Tryd.prog.cellsOf 23 = 1 := by kernel_rfl
theorem cellsAA : Tryd.prog.cellsOf 25 = 4 := by kernel_rfl
theorem bytesIA : Tryd.prog.bytesOf 3 = 8 := by kernel_rfl
theorem bytesLA : Tryd.prog.bytesOf 22 = 24 := by kernel_rfl
theorem bytesMA : Tryd.prog.bytesOf 59 = 24 := by kernel_rfl
theorem weights_allA {H : Type} {P : Program} {e : TypeId} : ∀ {l : List (DataW H)} {d : DataW H}, d ∈ l → ∀ n ∈ d.weights P e, n ∈ DataW.weightsAll P e l
 | x :: r, d, hd, n, hn => by
  simp only [DataW.weightsAll, List.mem_append]
  rcases List.mem_cons.1 hd with rfl | hd
  ·exact .inl hn
  ·exact .inr (weights_allA hd n hn)
theorem add_plainA (a : Addr) (j : Nat) (h : a.spot = none) : a.add j = ⟨a.block, a.off + j, none⟩ := by
 obtain ⟨b, o, s⟩ := a
 cases h
 unfold Addr.add; split <;> simp_all
section
variable {H : Type} {enc : TypeId × Value → H}
theorem rdI_of_trodA {W : World} {fuel : Nat} {v : Value} {x : DataW H × List MemPlace} (h : DataW.trod enc Tryd.prog W 0 (fun _ => true) true fuel 22 [v] = some x) (hw : ∀ n ∈ x.1.weights Tryd.prog 22, n ≤ reachBytes) : ∃ xs, RdI W v xs := by
 rcases open_ints Tryd.underlying22 Tryd.underlying3 cellsIA h with ⟨hcs, -⟩ | ⟨a, len, cap, zs, hcs, -, hl, hm, hz, hxe, hcell, -⟩
 ·simp only [List.cons.injEq, and_true] at hcs
  subst hcs
  exact ⟨[], none, 0, rfl, Nat.le_refl _, by decide, fun hp => by simp [ints] at hp⟩
 ·simp only [List.cons.injEq, and_true] at hcs
  subst hcs
  simp only [if_true] at hz
  have hwt : zs.length * 8 ≤ reachBytes := by
   have := hw ((zs.take len).length * 8 + (zs.drop len).length * 8) (by rw [hxe]; simp [DataW.weights, Tryd.underlying22, bytesIA, lits, Nat.add_mul])
   rw [List.length_take, List.length_drop] at this
   omega
  have hrb := reachBytes_lt
  have hlz : (zs.take len).length = len := by rw [List.length_take, hz]; omega
  refine ⟨zs.take len, some a, cap, by rw [ints_len, hlz], by rw [ints_len, hlz]; exact hl, by rw [ints_len, hlz]; omega, fun hp => ?_⟩
  rw [ints_len, hlz] at hp
  have hs : a.spot = none := by
   have := World.cell?_spot (hcell 0 (by omega))
   simpa [Addr.add] using this
  refine ⟨a.block, a.off, by obtain ⟨b, o, s⟩ := a; cases hs; rfl, fun j u hj => ?_⟩
  have hj2 := (List.getElem?_eq_some_iff.1 hj).1
  rw [ints_len, hlz] at hj2
  rw [← add_plainA a j hs, hcell j (by omega)]
  rw [ints_get, List.getElem?_take_of_lt hj2, List.getElem?_eq_getElem (by omega)] at hj
  rw [List.getD_eq_getElem?_getD, List.getElem?_eq_getElem (by omega)]
  exact hj
theorem rdS_of_trod {α : Type} [Inhabited α] {R : World → Value → α → Prop} {t e : TypeId} (ht : Tryd.prog.underlying t = some (.slice e)) (hc : Tryd.prog.cellsOf e = 1) (hby : Tryd.prog.bytesOf e = 24) {W : World} {fuel : Nat} {v : Value} {x : DataW H × List MemPlace}
  (hel : ∀ (n : Nat) (u : Value) (y : DataW H × List MemPlace), DataW.trod enc Tryd.prog W 0 (fun _ => true) true n e [u] = some y → (∀ k ∈ y.1.weights Tryd.prog e, k ≤ reachBytes) → ∃ z : α, R W u z)
  (h : DataW.trod enc Tryd.prog W 0 (fun _ => true) true fuel t [v] = some x) (hw : ∀ n ∈ x.1.weights Tryd.prog t, n ≤ reachBytes) : ∃ zs : List α, RdS R W v zs := by
 rcases Deep.open_slice1 ht hc h with ⟨hcs, -⟩ | ⟨a, len, cap, m, n, V, D, Pl, hcs, -, hl, hm, hmm, hxe, hx⟩
 ·simp only [List.cons.injEq, and_true] at hcs
  rw [hcs]
  exact ⟨[], [], ⟨none, 0, rfl, Nat.le_refl _, by decide, fun hp => by simp at hp⟩, rfl, fun j r u hr => by simp at hr⟩
 ·simp only [List.cons.injEq, and_true] at hcs
  rw [hcs]
  simp only [if_true] at hmm
  subst hmm
  have hde : x.1 = .slice ((List.range len).map D) ((List.range (m - len)).map fun j => D (len + j)) := congrArg Prod.fst hxe
  have hwt := hw (((List.range len).map D).length * 24 + ((List.range (m - len)).map fun j => D (len + j)).length * 24) (by rw [hde]; simp [DataW.weights, ht, hby, Nat.add_mul])
  have hrb := reachBytes_lt
  simp only [List.length_map, List.length_range] at hwt
  have each : ∀ r, r < len → ∃ y : α, R W (V r) y := fun r hr => hel _ _ _ (hx r (by omega)).2 (fun n hn => hw n (by
   rw [hde]
   simp only [DataW.weights, ht, List.mem_cons, List.mem_append]
   exact .inr (.inl (weights_allA (List.mem_map.2 ⟨r, by simpa using hr, rfl⟩) n hn))))
  obtain ⟨y, hy⟩ := Deep.choose_lt each
  refine ⟨(List.range len).map y, (List.range len).map V, ⟨some a, m, by simp, by simpa using hl, by simp; omega, fun hp => ?_⟩, by simp, fun j r u hr hu => ?_⟩
  ·have hs : a.spot = none := by
    have := World.cell?_spot (hx 0 (by simp at hp; omega)).1
    simpa [Addr.add] using this
   refine ⟨a.block, a.off, by obtain ⟨b, o, s⟩ := a; cases hs; rfl, fun j u hj => ?_⟩
   have hj2 : j < len := by simpa using (List.getElem?_eq_some_iff.1 hj).1
   rw [List.getElem?_map, List.getElem?_range hj2] at hj
   rw [← add_plainA a j hs, (hx j (by omega)).1]
   exact hj
  ·have hj2 : j < len := by simpa using (List.getElem?_eq_some_iff.1 hr).1
   rw [List.getElem?_map, List.getElem?_range hj2] at hr hu
   simp only [Option.map_some, Option.some.injEq] at hr hu
   subst hr hu
   exact hy j hj2
theorem rdM_of_trod {W : World} {fuel : Nat} {v : Value} {x : DataW H × List MemPlace} (h : DataW.trod enc Tryd.prog W 0 (fun _ => true) true fuel 59 [v] = some x) (hw : ∀ n ∈ x.1.weights Tryd.prog 59, n ≤ reachBytes) : ∃ rs, RdM W v rs := by
 obtain ⟨zs, vs, h1, h2, h3⟩ := rdS_of_trod (R := RdI) Tryd.underlying59 cellsLA bytesLA (fun _ _ _ hy hk => rdI_of_trodA hy hk) h hw
 exact ⟨zs, vs, h1, h2, h3⟩
theorem rdT_of_trod {W : World} {fuel : Nat} {v : Value} {x : DataW H × List MemPlace} (h : DataW.trod enc Tryd.prog W 0 (fun _ => true) true fuel 23 [v] = some x) (hw : ∀ n ∈ x.1.weights Tryd.prog 23, n ≤ reachBytes) : ∃ ms, RdT W v ms :=
 rdS_of_trod (R := RdM) Tryd.underlying23 cellsMA bytesMA (fun _ _ _ hy hk => rdM_of_trod hy hk) h hw
theorem open_aut {W : World} {b0 : Nat} {v : Value} {d : DataW H} {p : List MemPlace} (hval : Value.okWide Tryd.prog W .any b0 25 v) (h : DataW.Trod enc Tryd.prog W 0 (fun _ => true) true 25 v d p) (hw : ∀ n ∈ d.weights Tryd.prog 25, n ≤ reachBytes) :
  ∃ a s e t, v = .agg #[.int .i64 a.letters, s, e, t] ∧ RdA W s e t a ∧ -9223372036854775808 ≤ a.letters ∧ a.letters ≤ 9223372036854775807 := by
 obtain ⟨cs, rfl, hsz⟩ := okWide_struct Tryd.underlying25 hval
 obtain ⟨c0, c1, c2, c3, rfl⟩ := Go.Joins.array4 (hsz.trans cellsAA)
 obtain ⟨fuel, hf⟩ := h
 obtain ⟨y0, y1, y2, y3, n, hxe, hlen, h0, h1, h2, h3⟩ := Go.Joins.trod_struct4 Tryd.underlying25 hf
 simp only [Value.cells, cellsIA, cellsLA, cellsTA, List.drop_zero, List.drop_succ_cons, List.take_succ_cons, List.take_zero] at h0 h1 h2 h3
 have hde : d = .agg [y0.1, y1.1, y2.1, y3.1] := congrArg Prod.fst hxe
 obtain ⟨xs, hx⟩ := rdI_of_trodA h1 (fun n hn => hw n (by rw [hde]; simp only [DataW.weights, Tryd.underlying25, DataW.weightsEach, List.map_cons, List.mem_append]; exact .inr (.inl hn)))
 obtain ⟨ys, hy⟩ := rdI_of_trodA h2 (fun n hn => hw n (by rw [hde]; simp only [DataW.weights, Tryd.underlying25, DataW.weightsEach, List.map_cons, List.mem_append]; exact .inr (.inr (.inl hn))))
 obtain ⟨ms, hm⟩ := rdT_of_trod h3 (fun n hn => hw n (by rw [hde]; simp only [DataW.weights, Tryd.underlying25, DataW.weightsEach, List.map_cons, List.mem_append]; exact .inr (.inr (.inr (.inl hn)))))
 obtain ⟨i, hi, -, hwf⟩ := DataW.trod_int Tryd.underlying3 h0
 simp only [List.cons.injEq, and_true] at hi
 subst hi
 have hr : -9223372036854775808 ≤ i ∧ i ≤ 9223372036854775807 := by simpa [Lit.wf, IntKind.has, IntKind.min, IntKind.max, IntKind.signed, IntKind.bits] using hwf
 exact ⟨⟨i, xs, ys, ms⟩, _, _, _, rfl, ⟨hx, hy, hm⟩, hr.1, hr.2⟩
theorem staysA {t : TypeId} (hr : Tryd.prog.readableRec t = true) (ht : t < Tryd.prog.types.size) {W W' : World} {v : Value} {d : DataW H} {ps : List MemPlace} (h : DataW.Trod enc Tryd.prog W 0 (fun _ => true) true t v d ps) (hb : Below W.heap.size W W') (hlt : ∀ x ∈ ps, x.block < W.heap.size)
  {sp : Nat → Bool} (hs : ∀ x ∈ ps, sp x.block = true) : DataW.Trod enc Tryd.prog W' 0 sp true t v d ps := Trod_stays laidOutA hr ht h (fun x hx => hb.same (hlt x hx)) hs
end
end Go.Proofs.YtlpldfocljnpnaaDoor
namespace Go.Proofs.YtlpldfocljnpnaaDoor
open Go.RowKit Go.Shelf
def begX (a : Aut) (x : Nat) : List Int := alongL a.start.length a.start (a.steps.getD x [])
def endX (a : Aut) (x : Nat) : List Int := backL (a.steps.getD x []) a.end_
def starE (a : Aut) (n x i j : Nat) : Int := if i = n ∧ j = n then dotL (begX a x) a.end_ else if i = n then (begX a x).getD j 0 else if j = n then (endX a x).getD i 0 else G3 a x i j
def starA (a : Aut) : Aut := mkA a.steps.length (List.replicate a.start.length 0 ++ [1]) (List.replicate a.start.length 0 ++ [1]) (starE a a.start.length) (a.start.length + 1)
theorem unit2 (n : Nat) : (List.replicate n (0 : Int) ++ [1]).length = n + 1 ∧ ∀ u ∈ List.replicate n (0 : Int) ++ [1], 0 ≤ u ∧ u < 65521 :=
 ⟨by simp, fun u hu => by
  rcases List.mem_append.1 hu with h | h
  ·rw [List.eq_of_mem_replicate h]; decide
  ·rw [List.mem_singleton.1 h]; decide⟩
theorem starE_bd {a : Aut} {k n : Nat} (ok : okA a k n) (x i j : Nat) : 0 ≤ starE a n x i j ∧ starE a n x i j < 65521 := by
 unfold starE
 split
 ·exact dotL_bd _ _
 ·split
  ·exact getD_bd (alongL_bd _ _ _) _
  ·split
   ·exact getD_bd (backL_bd _ _) _
   ·exact ok.G3_bd _ _ _
theorem star_ok {a : Aut} {k n : Nat} (ok : okA a k n) : okA (starA a) k (n + 1) := by
 unfold starA
 rw [ok.steps, ok.start.1]
 exact mkA_ok ok.pos (unit2 n) (unit2 n) fun x i j _ _ _ => starE_bd ok x i j
theorem eqPlace (a b c d : Int) (w : World) : (Op.equalIn 10000 118 (.agg #[.int .i64 a, .int .i64 b]) (.agg #[.int .i64 c, .int .i64 d])).run Tryd.prog w = .ok (decide (a = c) && decide (b = d)) w := by
 have u3 : Tryd.prog.underlying 3 = some (.int .i64) := by kernel_rfl
 have hS : Tryd.prog.underlying 118 = some (.struct (Tryd.prog.fieldsOf 118)) := by kernel_rfl
 have a3 : ∀ w, (isAgg 3).run Tryd.prog w = .ok false w := fun _ => by kernel_rfl
 have z3 : ∀ w, (sizeOf 3).run Tryd.prog w = .ok 1 w := fun _ => by kernel_rfl
 rw [show (10000 : Nat) = 9999 + 1 from rfl, run_equalIn_agg w 9999 118 _ _ hS (by kernel_rfl)]
 simp only [Program.fieldsOf, Tryd.underlying118]
 go_simp
 by_cases h1 : a = c <;> by_cases h2 : b = d <;> simp [h1, h2]
theorem Star_1 {a : Aut} {k n : Nat} (ok : okA a k n) (hn : n ≤ 1000) (As Ae At : Option Addr) (cs ce ct : Nat) (gn gb ga gd gx x i j : Nat) (hx : x < k) (hi : i < n + 1) (hj : j < n + 1) (W : World) (ra : RdA W (.slice As n cs) (.slice Ae n ce) (.slice At k ct) a) (l : Int)
  (Ab Ad : Option Addr) (cb cd : Nat) (rb : RdI W (.slice Ab n cb) (begX a x)) (rd : RdI W (.slice Ad n cd) (endX a x))
  (hga : W.heap[ga]? = some (.cells #[.int .i64 l, .slice As n cs, .slice Ae n ce, .slice At k ct] 25 (0, 0))) (hgn : W.cell? ⟨gn, 0, none⟩ = some (.int .i64 (n : Nat))) (hgb : W.cell? ⟨gb, 0, none⟩ = some (.slice Ab n cb)) (hgd : W.cell? ⟨gd, 0, none⟩ = some (.slice Ad n cd)) (hgx : W.cell? ⟨gx, 0, none⟩ = some (.int .i64 (x : Nat))) :
  Calls Tryd.prog 92 (#[.int .i64 i, .int .i64 j] ++ #[.pointer (some ⟨gn, 0, none⟩), .pointer (some ⟨gb, 0, none⟩), .pointer (some ⟨ga, 0, none⟩), .pointer (some ⟨gd, 0, none⟩), .pointer (some ⟨gx, 0, none⟩)]) W fun r w' => r = .returned (.int .i64 (starE a n x i j)) ∧ Below W.heap.size W w' := by
 have hE : Hid (starE a n x i j = if i = n ∧ j = n then dotL (begX a x) a.end_ else if i = n then (begX a x).getD j 0 else if j = n then (endX a x).getD i 0 else G3 a x i j) := Lib.hid rfl
 have hbl : (begX a x).length = n := (alongL_len _ _ _).trans ok.start.1
 have hel : (endX a x).length = n := (backL_len _ _).trans (ok.row_ok hx).1
 have hdt := Lib.hid (dot_any (begX a x) a.end_ (.slice Ab n cb) (.slice Ae n ce) W rb ra.end_ (by rw [hbl, ok.end_.1]; exact Nat.le_refl _) (by omega) (alongL_bd _ _ _) ok.end_.2)
 obtain ⟨p0, p1, p2, p3⟩ := cells4 hga
 have hcmp : ∀ (A B C D : Int) (w : World), (binOp .eql 118 (.agg #[.int .i64 A, .int .i64 B]) (.agg #[.int .i64 C, .int .i64 D])).run Tryd.prog w = .ok (.bool (decide (A = C) && decide (B = D))) w := by
  intro A B C D w
  rw [run_eql_struct, eqPlace]
  rfl
 generalize starE a n x i j = R at *
 by_cases h1 : i = n
 ·by_cases h2 : j = n
  ·have hr := Lib.hid (hE.out.trans (if_pos ⟨h1, h2⟩))
   have c1 : (decide ((i : Int) = (n : Int)) && decide ((j : Int) = (n : Int))) = true := by simp [h1, h2]
   have hc := hcmp i j n n
   rw [c1] at hc
   replace h1 := Lib.hid h1
   replace h2 := Lib.hid h2
   clear hE ra rb rd ok hcmp c1
   go_enter Tryd.func92, Tryd.ntmps92
   go_wp2_with fail
   refine hdt.out.mono ?_; rintro e w' ⟨rfl, rfl⟩
   go_wp2
   go_ret
   exact ⟨by rw [hr.out]; rfl, Below.refl _ _⟩
  ·have hr := hE.out.trans ((if_neg (fun h => h2 h.2)).trans (if_pos h1))
   have c1 : (decide ((i : Int) = (n : Int)) && decide ((j : Int) = (n : Int))) = false := by simp; omega
   have hc := hcmp i j n n
   rw [c1] at hc
   obtain ⟨A', c', e, -, -, h3⟩ := rb.open_
   rw [hbl] at e h3
   simp only [Value.slice.injEq, true_and] at e
   obtain ⟨rfl, rfl⟩ := e
   obtain ⟨b3, o3, rfl, hcj⟩ := h3 j (by omega)
   have y1 : ((i : Int) == (n : Int)) = true := by rw [beq_iff_eq]; omega
   have y2 : (i : Int) = (n : Int) := by omega
   have z1 : (j : Int) < (n : Int) := by omega
   have z0 : (0 : Int) ≤ (j : Int) := by omega
   replace hr := Lib.hid hr
   replace h1 := Lib.hid h1
   replace y2 := Lib.hid y2
   clear hE ra rb rd ok hcmp c1 h3 hdt
   generalize (begX a x).getD j 0 = v at *
   go_enter Tryd.func92, Tryd.ntmps92
   go_wp2
   go_ret
   exact ⟨by rw [hr.out]; rfl, Below.refl _ _⟩
 ·have c1 : (decide ((i : Int) = (n : Int)) && decide ((j : Int) = (n : Int))) = false := by simp; omega
  have hc := hcmp i j n n
  rw [c1] at hc
  have y1 : ((i : Int) == (n : Int)) = false := by rw [beq_eq_false_iff_ne]; omega
  have yn : ¬ (i : Int) = (n : Int) := by omega
  have i1 : (i : Int) < (n : Int) := by omega
  have i0 : (0 : Int) ≤ (i : Int) := by omega
  by_cases h2 : j = n
  ·have hr := hE.out.trans ((if_neg (fun h => h1 h.1)).trans ((if_neg h1).trans (if_pos h2)))
   obtain ⟨A', c', e, -, -, h3⟩ := rd.open_
   rw [hel] at e h3
   simp only [Value.slice.injEq, true_and] at e
   obtain ⟨rfl, rfl⟩ := e
   obtain ⟨b3, o3, rfl, hcj⟩ := h3 i (by omega)
   have z1 : ((j : Int) == (n : Int)) = true := by rw [beq_iff_eq]; omega
   have z2 : (j : Int) = (n : Int) := by omega
   replace hr := Lib.hid hr
   replace h2 := Lib.hid h2
   replace z2 := Lib.hid z2
   clear hE ra rb rd ok hcmp c1 h3 hdt
   generalize (endX a x).getD i 0 = v at *
   go_enter Tryd.func92, Tryd.ntmps92
   go_wp2
   go_ret
   exact ⟨by rw [hr.out]; rfl, Below.refl _ _⟩
  ·have hr := hE.out.trans ((if_neg (fun h => h1 h.1)).trans ((if_neg h1).trans (if_neg h2)))
   obtain ⟨b1, o1, c1', b2, o2, c2, b3, o3, c3, e1, e2, e3, e4⟩ := ra.num ok hx (show i < n by omega) (show j < n by omega)
   simp only [Value.slice.injEq, true_and] at e1
   obtain ⟨rfl, rfl⟩ := e1
   have z1 : ((j : Int) == (n : Int)) = false := by rw [beq_eq_false_iff_ne]; omega
   have z2 : ¬ (j : Int) = (n : Int) := by omega
   have j1 : (j : Int) < (n : Int) := by omega
   have j0 : (0 : Int) ≤ (j : Int) := by omega
   have x1 : (x : Int) < (k : Int) := by omega
   have x0 : (0 : Int) ≤ (x : Int) := by omega
   replace hr := Lib.hid hr
   clear hE ra rb rd ok hcmp c1 hdt
   generalize G3 a x i j = v at *
   go_enter Tryd.func92, Tryd.ntmps92
   go_wp2
   go_ret
   exact ⟨by rw [hr.out]; rfl, Below.refl _ _⟩
end Go.Proofs.YtlpldfocljnpnaaDoor
