/- The reference of layer 17 The reference's fits The reference's Fit, Least and made The law's helper ruled Sequences Plain The reference of layer 17 -/
import Derived.Test.YtlpldfocljnpnaaDoorKan
import Derived.Test.YtlpldfocljnpnaaDoorKae
import Derived.Test.YtlpldfocljnpnaaDoorKad
import Derived.Test.YtlpldfocljnpnaaDoorKac
import Derived.StillTailTactics
import Derived.Test.YtlpldfocljnpnaaDoorKam
set_option maxRecDepth 100000
set_option maxHeartbeats 6400000
set_option linter.unusedSimpArgs false
namespace Go.Proofs.YtlpldfocljnpnaaDoor
open Go.RowKit Go.Shelf
theorem Weight17_any (a : Aut) (ks : ByteArray) (s e t : Value) (w : World) (ra : RdA w s e t a) (hks : ks.size ≤ 1000000) :
  Calls Tryd.prog 18 #[.agg #[.int .i64 a.letters, s, e, t], .string ks] w fun r w' => r = .returned (.tuple #[.int .i64 (weightP a ks).1, .int .i64 (weightP a ks).2]) ∧ Below w.heap.size w w' := by
 obtain ⟨As, cs, rfl, -, -⟩ := ra.start.cell_
 obtain ⟨Ae, ce, rfl, -, -⟩ := ra.end_.cell_
 obtain ⟨At, ct, rfl, -, -⟩ := RdS.open_ ([] : List (List Int)) ra.steps
 have hck := Lib.hid (fun W (hW : Below w.heap.size w W) => Check17_any a _ _ _ W (ra.below hW (Nat.le_refl _)))
 by_cases h0 : checkA a = 0
 ·obtain ⟨k0, ok, h12, hk0⟩ := checkA_ex h0
  have hwt := Lib.hid (fun (hh : ∀ i, i < ks.size → badAt a.letters ks i = false) (hm : ks.size ≤ 40) W (hW : Below w.heap.size w W) => by
   obtain ⟨g1, g2⟩ := wordN_lt hk0 hh
   have := weight17_any ok (by omega) ks (fun i hi => ⟨g1 i hi, g2 _ (List.mem_map.2 ⟨i, List.mem_range.2 hi, rfl⟩)⟩) (by omega) _ _ _ W (ra.below hW (Nat.le_refl _))
   exact this)
  have hr : weightP a ks = (if 40 < ks.size then (0, 11) else if (List.range ks.size).any (badAt a.letters ks) = true then (0, 4) else (wtW a (wordN ks), 0)) := if_pos h0
  rw [h0] at hck
  replace hr := Lib.hid hr
  rw [hk0] at hck hwt hr ⊢
  clear ra ok h0
  generalize weightP a ks = R at *
  generalize wtW a (wordN ks) = wt at *
  generalize a.start.length = n at *
  generalize a.end_.length = m at *
  generalize a.steps.length = k at *
  obtain ⟨hB, x0, hz⟩ := box4 w (.int .i64 (k0 : Nat)) (.slice As n cs) (.slice Ae m ce) (.slice At k ct) 25
  clear hk0 h12
  go_enter Tryd.func18, Tryd.ntmps18
  go_wp2_with fail
  generalize (w.alloc (.cells #[.int .i64 (k0 : Nat), .slice As n cs, .slice Ae m ce, .slice At k ct] 25)) = X at *
  refine (hck.out X hB).mono ?_; rintro e W1 ⟨rfl, hb⟩
  have hB1 := Lib.hid (Below.then_ hB hb)
  replace x0 := (hb.block w.heap.size (by omega)).trans x0
  have hz1 := hb.size
  obtain ⟨q0, q1, q2, q3⟩ := cells4 x0
  have hxW := Lib.hid (fun W (hW : Below W1.heap.size W1 W) => heap_keep x0 hW)
  have hz2 := hB1.out.size
  clear hb hB x0 hck
  by_cases h40 : 40 < ks.size
  ·have hr2 := Lib.hid (hr.out.trans (if_pos h40))
   have y1 : (40 : Int) < (ks.size : Int) := by omega
   go_wp2_with fail
   go_ret2
   exact ⟨by rw [hr2.out]; rfl, hB1.out⟩
  ·replace hr := Lib.hid (hr.out.trans (if_neg h40))
   have y1 : ¬ (40 : Int) < (ks.size : Int) := by omega
   have h40' := Lib.hid (show ks.size ≤ 40 by omega)
   go_wp2
   go_loopw [7] (fun i wr => ∃ q : Nat, q ≤ ks.size ∧ i = .int .i64 q ∧ Hid (∀ j, j < q → badAt (k0 : Nat) ks j = false) ∧ Hid (Below W1.heap.size W1 wr)) (fun i _ => ks.size - (intOf i).toNat)
   case atStart => exact ⟨0, Nat.zero_le _, rfl, Lib.hid (fun j hj => absurd hj (Nat.not_lt_zero j)), Lib.hid (Below.refl _ _)⟩
   case round =>
    obtain ⟨q, hq, rfl, hG, hB⟩ := hrel
    by_cases hlt : q < ks.size
    ·have hbt := bt_get hlt
     have y2 : (q : Int) < (ks.size : Int) := by omega
     have y0 : (0 : Int) ≤ (q : Int) := by omega
     have hx0 := hxW.out wr hB.out
     obtain ⟨q0, q1, q2, q3⟩ := cells4 hx0
     obtain ⟨x, hx⟩ : ∃ x, ks[q].toNat = x := ⟨_, rfl⟩
     have hxb : x < 256 := by rw [← hx]; exact UInt8.toNat_lt _
     rw [hx] at hbt
     have hB2 := Lib.hid (hB.out.drew)
     have HS : wr.drew.heap[w.heap.size]? = some (.cells #[.int .i64 (k0 : Nat), .slice As n cs, .slice Ae m ce, .slice At k ct] 25 (0, 0)) := hx0
     by_cases hlo : x < 97
     ·have hbad : badAt (k0 : Nat) ks q = true := by unfold badAt; rw [hbt]; simp [hlo]
      have hr2 := Lib.hid (hr.out.trans (if_pos (List.any_eq_true.2 ⟨q, List.mem_range.2 hlt, hbad⟩)))
      have z1 : (x : Int) < 97 := by omega
      replace hbt := Lib.hid hbt
      replace hbad := Lib.hid hbad
      clear hB
      go_wp2
      refine D_begin (fun w' => w'.heap[w.heap.size]? = some (.cells #[.int .i64 (k0 : Nat), .slice As n cs, .slice Ae m ce, .slice At k ct] 25 (0, 0))) (fun _ => True) 99 (by kernel_rfl) ?_
      change wpAnyD _ _ _ _ _ _ _ _ _ _ wr.drew
      simp only [List.size_toArray, List.length_cons, List.length_nil, Nat.reduceAdd, Array.replicate_succ, Array.replicate_zero, List.push_toArray, List.append_toArray, List.nil_append, List.cons_append]
      refine Dt 0 rfl ?_ HS (fun _ => trivial) ?_ ?_
      rotate_left; · intro w1 hw1; go_simp; try with_reducible rfl
      try simp only [Act.put, s_1, s_2, s_3, s_4, s_5, s_6]
      refine Dt 1 rfl ?_ HS (fun _ => trivial) ?_ ?_
      rotate_left; · intro w1 hw1; go_simp; try with_reducible rfl
      try simp only [Act.put, s_1, s_2, s_3, s_4, s_5, s_6]
      refine Dt 2 rfl ?_ HS (fun _ => trivial) ?_ ?_
      rotate_left; · intro w1 hw1; go_simp; try with_reducible rfl
      try simp only [Act.put, s_1, s_2, s_3, s_4, s_5, s_6]
      refine Dt 3 rfl ?_ HS (fun _ => trivial) ?_ ?_
      rotate_left; · intro w1 hw1; go_simp; try with_reducible rfl
      try simp only [Act.put, s_1, s_2, s_3, s_4, s_5, s_6]
      refine Dt 4 rfl ?_ HS (fun _ => trivial) ?_ ?_
      rotate_left; · intro w1 hw1; go_simp; try with_reducible rfl
      try simp only [Act.put, s_1, s_2, s_3, s_4, s_5, s_6]
      refine Du 5 rfl HS (fun _ => trivial) ?_
      try simp only [Act.put, s_1, s_2, s_3, s_4, s_5, s_6]
      refine Du 6 rfl HS (fun _ => trivial) ?_
      try simp only [Act.put, s_1, s_2, s_3, s_4, s_5, s_6]
      refine Du 7 rfl HS (fun _ => trivial) ?_
      try simp only [Act.put, s_1, s_2, s_3, s_4, s_5, s_6]
      refine Du 8 rfl HS (fun _ => trivial) ?_
      try simp only [Act.put, s_1, s_2, s_3, s_4, s_5, s_6]
      refine Du 9 rfl HS (fun _ => trivial) ?_
      try simp only [Act.put, s_1, s_2, s_3, s_4, s_5, s_6]
      refine Du 10 rfl HS (fun _ => trivial) ?_
      try simp only [Act.put, s_1, s_2, s_3, s_4, s_5, s_6]
      refine Du 11 rfl HS (fun _ => trivial) ?_
      try simp only [Act.put, s_1, s_2, s_3, s_4, s_5, s_6]
      refine Du 12 rfl HS (fun _ => trivial) ?_
      try simp only [Act.put, s_1, s_2, s_3, s_4, s_5, s_6]
      refine Dt 13 rfl ?_ HS (fun _ => trivial) ?_ ?_
      rotate_left; · intro w1 hw1; go_simp; try with_reducible rfl
      try simp only [Act.put, s_1, s_2, s_3, s_4, s_5, s_6]
      refine D_done (by kernel_rfl) ?_ _
      clear q0 q1 q2 q3
      generalize wr.drew = wd at *
      go_wp2
      go_ret2
      exact ⟨by rw [hr2.out]; rfl, hB1.out.trans (hB2.out.mono hz2)⟩
     ·have z1 : ¬ (x : Int) < 97 := by omega
      have zb : decide ((x : Int) < 97) = false := decide_eq_false z1
      have w1 : IntKind.u8.wrap ((x : Int) - 97) = (x : Int) - 97 := by rw [IntKind.wrap_u8]; omega
      have w2 : IntKind.i64.wrap ((x : Int) - 97) = (x : Int) - 97 := IntWalk.i64_in _ ⟨by omega, by omega⟩
      by_cases hhi : (k0 : Int) ≤ (x : Int) - 97
      ·have hbad : badAt (k0 : Nat) ks q = true := by unfold badAt; rw [hbt]; simp [hhi]
       have hr2 := Lib.hid (hr.out.trans (if_pos (List.any_eq_true.2 ⟨q, List.mem_range.2 hlt, hbad⟩)))
       replace hbt := Lib.hid hbt
       replace hbad := Lib.hid hbad
       clear hB
       go_wp2
       refine D_begin (fun w' => w'.heap[w.heap.size]? = some (.cells #[.int .i64 (k0 : Nat), .slice As n cs, .slice Ae m ce, .slice At k ct] 25 (0, 0))) (fun _ => True) 99 (by kernel_rfl) ?_
       change wpAnyD _ _ _ _ _ _ _ _ _ _ wr.drew
       simp only [List.size_toArray, List.length_cons, List.length_nil, Nat.reduceAdd, Array.replicate_succ, Array.replicate_zero, List.push_toArray, List.append_toArray, List.nil_append, List.cons_append]
       refine Dt 0 rfl ?_ HS (fun _ => trivial) ?_ ?_
       rotate_left; · intro w1 hw1; obtain ⟨q0, q1, q2, q3⟩ := cells4 hw1; go_simp; try with_reducible rfl
       try simp only [Act.put, s_1, s_2, s_3, s_4, s_5, s_6]
       refine Dt 1 rfl ?_ HS (fun _ => trivial) ?_ ?_
       rotate_left; · intro w1 hw1; obtain ⟨q0, q1, q2, q3⟩ := cells4 hw1; go_simp; try with_reducible rfl
       try simp only [Act.put, s_1, s_2, s_3, s_4, s_5, s_6]
       refine Dt 2 rfl ?_ HS (fun _ => trivial) ?_ ?_
       rotate_left; · intro w1 hw1; obtain ⟨q0, q1, q2, q3⟩ := cells4 hw1; go_simp; try with_reducible rfl
       try simp only [Act.put, s_1, s_2, s_3, s_4, s_5, s_6]
       refine Dt 3 rfl ?_ HS (fun _ => trivial) ?_ ?_
       rotate_left; · intro w1 hw1; obtain ⟨q0, q1, q2, q3⟩ := cells4 hw1; go_simp; try with_reducible rfl
       try simp only [Act.put, s_1, s_2, s_3, s_4, s_5, s_6]
       refine Dt 4 rfl ?_ HS (fun _ => trivial) ?_ ?_
       rotate_left; · intro w1 hw1; obtain ⟨q0, q1, q2, q3⟩ := cells4 hw1; go_simp; try with_reducible rfl
       try simp only [Act.put, s_1, s_2, s_3, s_4, s_5, s_6]
       refine Dt 5 rfl ?_ HS (fun _ => trivial) ?_ ?_
       rotate_left; · intro w1 hw1; obtain ⟨q0, q1, q2, q3⟩ := cells4 hw1; go_simp; try with_reducible rfl
       try simp only [Act.put, s_1, s_2, s_3, s_4, s_5, s_6]
       refine Dt 6 rfl ?_ HS (fun _ => trivial) ?_ ?_
       rotate_left; · intro w1 hw1; obtain ⟨q0, q1, q2, q3⟩ := cells4 hw1; go_simp; try with_reducible rfl
       try simp only [Act.put, s_1, s_2, s_3, s_4, s_5, s_6]
       refine Dt 7 rfl ?_ HS (fun _ => trivial) ?_ ?_
       rotate_left; · intro w1 hw1; obtain ⟨q0, q1, q2, q3⟩ := cells4 hw1; go_simp; try with_reducible rfl
       try simp only [Act.put, s_1, s_2, s_3, s_4, s_5, s_6]
       refine Dt 8 rfl ?_ HS (fun _ => trivial) ?_ ?_
       rotate_left; · intro w1 hw1; obtain ⟨q0, q1, q2, q3⟩ := cells4 hw1; go_simp; try with_reducible rfl
       try simp only [Act.put, s_1, s_2, s_3, s_4, s_5, s_6]
       refine Dt 9 rfl ?_ HS (fun _ => trivial) ?_ ?_
       rotate_left; · intro w1 hw1; obtain ⟨q0, q1, q2, q3⟩ := cells4 hw1; go_simp; try with_reducible rfl
       try simp only [Act.put, s_1, s_2, s_3, s_4, s_5, s_6]
       refine Dt 10 rfl ?_ HS (fun _ => trivial) ?_ ?_
       rotate_left; · intro w1 hw1; obtain ⟨q0, q1, q2, q3⟩ := cells4 hw1; go_simp; try with_reducible rfl
       try simp only [Act.put, s_1, s_2, s_3, s_4, s_5, s_6]
       refine Dt 11 rfl ?_ HS (fun _ => trivial) ?_ ?_
       rotate_left; · intro w1 hw1; obtain ⟨q0, q1, q2, q3⟩ := cells4 hw1; go_simp; try with_reducible rfl
       try simp only [Act.put, s_1, s_2, s_3, s_4, s_5, s_6]
       refine Dt 12 rfl ?_ HS (fun _ => trivial) ?_ ?_
       rotate_left; · intro w1 hw1; obtain ⟨q0, q1, q2, q3⟩ := cells4 hw1; go_simp; try with_reducible rfl
       try simp only [Act.put, s_1, s_2, s_3, s_4, s_5, s_6]
       refine Dt 13 rfl ?_ HS (fun _ => trivial) ?_ ?_
       rotate_left; · intro w1 hw1; obtain ⟨q0, q1, q2, q3⟩ := cells4 hw1; go_simp; try with_reducible rfl
       try simp only [Act.put, s_1, s_2, s_3, s_4, s_5, s_6]
       refine D_done (by kernel_rfl) ?_ _
       clear q0 q1 q2 q3
       generalize wr.drew = wd at *
       go_wp2
       go_ret2
       exact ⟨by rw [hr2.out]; rfl, hB1.out.trans (hB2.out.mono hz2)⟩
      ·have zb2 : decide ((k0 : Int) ≤ (x : Int) - 97) = false := decide_eq_false hhi
       have hgood : badAt (k0 : Nat) ks q = false := by unfold badAt; rw [hbt]; simp; omega
       have hG2 := Lib.hid (show ∀ j, j < q + 1 → badAt (k0 : Nat) ks j = false from fun j hj => by
        by_cases e : j = q
        ·rw [e]; exact hgood
        ·exact hG.out j (by omega))
       replace hbt := Lib.hid hbt
       replace hgood := Lib.hid hgood
       clear hB
       go_wp2
       refine D_begin (fun w' => w'.heap[w.heap.size]? = some (.cells #[.int .i64 (k0 : Nat), .slice As n cs, .slice Ae m ce, .slice At k ct] 25 (0, 0))) (fun _ => True) 99 (by kernel_rfl) ?_
       change wpAnyD _ _ _ _ _ _ _ _ _ _ wr.drew
       simp only [List.size_toArray, List.length_cons, List.length_nil, Nat.reduceAdd, Array.replicate_succ, Array.replicate_zero, List.push_toArray, List.append_toArray, List.nil_append, List.cons_append]
       refine Dt 0 rfl ?_ HS (fun _ => trivial) ?_ ?_
       rotate_left; · intro w1 hw1; obtain ⟨q0, q1, q2, q3⟩ := cells4 hw1; go_simp; try with_reducible rfl
       try simp only [Act.put, s_1, s_2, s_3, s_4, s_5, s_6]
       refine Dt 1 rfl ?_ HS (fun _ => trivial) ?_ ?_
       rotate_left; · intro w1 hw1; obtain ⟨q0, q1, q2, q3⟩ := cells4 hw1; go_simp; try with_reducible rfl
       try simp only [Act.put, s_1, s_2, s_3, s_4, s_5, s_6]
       refine Dt 2 rfl ?_ HS (fun _ => trivial) ?_ ?_
       rotate_left; · intro w1 hw1; obtain ⟨q0, q1, q2, q3⟩ := cells4 hw1; go_simp; try with_reducible rfl
       try simp only [Act.put, s_1, s_2, s_3, s_4, s_5, s_6]
       refine Dt 3 rfl ?_ HS (fun _ => trivial) ?_ ?_
       rotate_left; · intro w1 hw1; obtain ⟨q0, q1, q2, q3⟩ := cells4 hw1; go_simp; try with_reducible rfl
       try simp only [Act.put, s_1, s_2, s_3, s_4, s_5, s_6]
       refine Dt 4 rfl ?_ HS (fun _ => trivial) ?_ ?_
       rotate_left; · intro w1 hw1; obtain ⟨q0, q1, q2, q3⟩ := cells4 hw1; go_simp; try with_reducible rfl
       try simp only [Act.put, s_1, s_2, s_3, s_4, s_5, s_6]
       refine Dt 5 rfl ?_ HS (fun _ => trivial) ?_ ?_
       rotate_left; · intro w1 hw1; obtain ⟨q0, q1, q2, q3⟩ := cells4 hw1; go_simp; try with_reducible rfl
       try simp only [Act.put, s_1, s_2, s_3, s_4, s_5, s_6]
       refine Dt 6 rfl ?_ HS (fun _ => trivial) ?_ ?_
       rotate_left; · intro w1 hw1; obtain ⟨q0, q1, q2, q3⟩ := cells4 hw1; go_simp; try with_reducible rfl
       try simp only [Act.put, s_1, s_2, s_3, s_4, s_5, s_6]
       refine Dt 7 rfl ?_ HS (fun _ => trivial) ?_ ?_
       rotate_left; · intro w1 hw1; obtain ⟨q0, q1, q2, q3⟩ := cells4 hw1; go_simp; try with_reducible rfl
       try simp only [Act.put, s_1, s_2, s_3, s_4, s_5, s_6]
       refine Dt 8 rfl ?_ HS (fun _ => trivial) ?_ ?_
       rotate_left; · intro w1 hw1; obtain ⟨q0, q1, q2, q3⟩ := cells4 hw1; go_simp; try with_reducible rfl
       try simp only [Act.put, s_1, s_2, s_3, s_4, s_5, s_6]
       refine Dt 9 rfl ?_ HS (fun _ => trivial) ?_ ?_
       rotate_left; · intro w1 hw1; obtain ⟨q0, q1, q2, q3⟩ := cells4 hw1; go_simp; try with_reducible rfl
       try simp only [Act.put, s_1, s_2, s_3, s_4, s_5, s_6]
       refine Dt 10 rfl ?_ HS (fun _ => trivial) ?_ ?_
       rotate_left; · intro w1 hw1; obtain ⟨q0, q1, q2, q3⟩ := cells4 hw1; go_simp; try with_reducible rfl
       try simp only [Act.put, s_1, s_2, s_3, s_4, s_5, s_6]
       refine Dt 11 rfl ?_ HS (fun _ => trivial) ?_ ?_
       rotate_left; · intro w1 hw1; obtain ⟨q0, q1, q2, q3⟩ := cells4 hw1; go_simp; try with_reducible rfl
       try simp only [Act.put, s_1, s_2, s_3, s_4, s_5, s_6]
       refine Dt 12 rfl ?_ HS (fun _ => trivial) ?_ ?_
       rotate_left; · intro w1 hw1; obtain ⟨q0, q1, q2, q3⟩ := cells4 hw1; go_simp; try with_reducible rfl
       try simp only [Act.put, s_1, s_2, s_3, s_4, s_5, s_6]
       refine Dt 13 rfl ?_ HS (fun _ => trivial) ?_ ?_
       rotate_left; · intro w1 hw1; obtain ⟨q0, q1, q2, q3⟩ := cells4 hw1; go_simp; try with_reducible rfl
       try simp only [Act.put, s_1, s_2, s_3, s_4, s_5, s_6]
       refine D_done (by kernel_rfl) ?_ _
       clear q0 q1 q2 q3
       generalize wr.drew = wd at *
       go_wp2
       go_roundw
       case rel => exact ⟨q + 1, by omega, by go_num, hG2, hB2⟩
       case measure => simp [intOf]; omega
    ·obtain rfl : q = ks.size := by omega
     have hr2 : Hid (R = (wt, 0)) := Lib.hid (hr.out.trans (if_neg (by
      rw [List.any_eq_true]
      rintro ⟨j, hj, hb⟩
      rw [hG.out j (List.mem_range.1 hj)] at hb
      cases hb)))
     have hcall := Lib.hid (hwt.out hG.out h40'.out wr (hB1.out.trans (hB.out.mono hz2)))
     obtain ⟨q0, q1, q2, q3⟩ := cells4 (hxW.out wr hB.out)
     have hBf := Lib.hid (hB1.out.trans (hB.out.mono hz2))
     clear hwt
     go_wp2_with fail
     refine hcall.out.mono ?_; rintro e W2 ⟨rfl, hb2⟩
     have hB3 := Lib.hid (Below.then_ hBf.out hb2)
     go_wp2
     go_ret2
     exact ⟨by rw [hr2.out]; rfl, hB3.out⟩
 ·have hr : Hid (weightP a ks = (0, checkA a)) := Lib.hid (if_neg h0)
  have hne : (checkA a != 0) = true := by rw [bne_iff_ne]; exact h0
  clear ra
  generalize weightP a ks = R at *
  generalize checkA a = er at *
  generalize a.letters = L at *
  generalize a.start.length = n at *
  generalize a.end_.length = m at *
  generalize a.steps.length = k at *
  obtain ⟨hB, x0, hz⟩ := box4 w (.int .i64 L) (.slice As n cs) (.slice Ae m ce) (.slice At k ct) 25
  go_enter Tryd.func18, Tryd.ntmps18
  go_wp2_with fail
  generalize (w.alloc (.cells #[.int .i64 L, .slice As n cs, .slice Ae m ce, .slice At k ct] 25)) = X at *
  refine (hck.out X hB).mono ?_; rintro e W1 ⟨rfl, hb⟩
  have hB1 := Lib.hid (Below.then_ hB hb)
  go_wp2_with fail
  go_ret2
  exact ⟨by rw [hr.out]; rfl, hB1.out⟩
end Go.Proofs.YtlpldfocljnpnaaDoor
namespace Go.Proofs.YtlpldfocljnpnaaDoor
open Go.RowKit
structure FitSt (base : Nat) (W : World) (rv bv : Value) (rs : List (List Int)) (bs : List Int) (vs : List Value) : Prop where
 m : OwnMv W base rv rs vs
 b : OwnI W base bv bs
 apart : ∀ u ∈ vs, u.ownBlock = none ∨ u.ownBlock ≠ bv.ownBlock
theorem FitSt.kept {base : Nat} {W W' : World} {rv bv : Value} {rs : List (List Int)} {bs : List Int} {vs : List Value} (h : FitSt base W rv bv rs bs vs) (hb : Below W.heap.size W W') : FitSt base W' rv bv rs bs vs :=
 ⟨h.m.kept hb, h.b.below hb, h.apart⟩
theorem FitSt.row {base lo n : Nat} {W W' : World} {rv rv' bv rowv : Value} {rs : List (List Int)} {r bs : List Int} {vs : List Value} (h : FitSt base W rv bv rs bs vs) (hr : OwnI W lo rowv r) (hlo : base ≤ lo)
  (hnew : ∀ q, rowv.ownBlock = some q → (∀ u ∈ vs, u.ownBlock ≠ some q) ∧ bv.ownBlock ≠ some q) (hn : n = rs.length + 1) (hown : W'.ownsRow base 22 1 rv' n (vs ++ [rowv])) (hg : W.grownBy W' rv.ownBlock) : FitSt base W' rv' bv (rs ++ [r]) bs (vs ++ [rowv]) := by
 refine ⟨h.m.snoc (hr.base hlo) (fun x hx => ?_) hown hn hg, OwnI.base (World.ownsRow.kept h.b hg (own_ne h.b h.m.outer (by decide))) (Nat.le_refl _), fun u hu => ?_⟩
 ·rcases hq : rowv.ownBlock with _ | q
  ·by_cases hx0 : x.ownBlock = none
   ·exact .inl hx0
   ·exact .inr hx0
  ·exact .inr ((hnew q hq).1 x hx)
 ·rcases List.mem_append.1 hu with hu | hu
  ·exact h.apart u hu
  ·obtain rfl : u = rowv := by simpa using hu
   rcases hq : u.ownBlock with _ | q
   ·exact .inl rfl
   ·exact .inr (fun e => (hnew q hq).2 e.symm)
theorem FitSt.num {base n g : Nat} {W W' : World} {rv bv bv' : Value} {rs : List (List Int)} {bs : List Int} {x : Int} {vs : List Value} (h : FitSt base W rv bv rs bs vs) (hn : n = bs.length + 1)
  (hown : W'.ownsRow base 3 1 bv' n (ints bs ++ [.int .i64 x])) (hg : W.grownBy W' bv.ownBlock) (hat : bv.ownBlock = some g ∨ g = W.heap.size) (hbv : bv'.ownBlock = some g) : FitSt base W' rv bv' rs (bs ++ [x]) vs := by
 refine ⟨h.m.grownBy hg (own_ne h.m.outer h.b (by decide)) h.apart, ?_, fun u hu => ?_⟩
 ·unfold OwnI; rw [List.length_append, List.length_singleton, ints_append, ← hn]; exact hown
 ·rcases hq : u.ownBlock with _ | q
  ·exact .inl rfl
  ·refine .inr fun e => ?_
   rw [hbv] at e
   rcases hat with hat | hat
   ·rcases h.apart u hu with h2 | h2
    ·rw [hq] at h2; cases h2
    ·rw [hq, hat] at h2; exact h2 e
   ·have := (h.m.ge u hu q hq).2
    simp only [Option.some.injEq] at e; omega
def rowP (f : Nat → Int) (o k : Nat) : List Int := (List.range o).map fun j => if j < k then f j else 0
theorem rowP_len (f : Nat → Int) (o k : Nat) : (rowP f o k).length = o := by simp [rowP]
theorem rowP_zero (f : Nat → Int) (o : Nat) : rowP f o 0 = List.replicate o 0 := by
 apply List.ext_getElem?; intro j
 simp only [rowP, List.getElem?_map, List.getElem?_replicate, Nat.not_lt_zero, if_false]
 by_cases h : j < o
 ·rw [List.getElem?_range h, if_pos h]; rfl
 ·rw [List.getElem?_eq_none (by simpa using h), if_neg h]; rfl
theorem rowP_set (f : Nat → Int) {o k : Nat} (h : k < o) : (rowP f o k).set k (f k) = rowP f o (k + 1) := by
 apply List.ext_getElem?; intro j
 rw [List.getElem?_set]
 simp only [rowP, List.getElem?_map, List.length_map, List.length_range]
 by_cases hj : j < o
 ·rw [List.getElem?_range hj]
  by_cases e : k = j
  ·subst e; simp [h]
  ·simp only [if_neg e, Option.map_some]
   by_cases h2 : j < k
   ·rw [if_pos h2, if_pos (by omega)]
   ·rw [if_neg h2, if_neg (by omega)]
 ·rw [List.getElem?_eq_none (l := List.range o) (by simpa using hj), if_neg (by omega)]; rfl
theorem rowP_end (f : Nat → Int) (o : Nat) : rowP f o o = (List.range o).map f := by
 unfold rowP
 exact List.map_congr_left fun j hj => if_pos (List.mem_range.1 hj)
theorem mat_take (f : Nat → Nat → Int) {n m k : Nat} (hk : k < n) : (mat f n m).take k ++ [(List.range m).map (f k)] = (mat f n m).take (k + 1) := by
 have hl : k < (mat f n m).length := by rw [mat_len]; exact hk
 rw [List.take_succ_eq_append_getElem hl]
 simp [mat]
theorem drop_take_snoc (l : List Int) {o k : Nat} (h : o + k < l.length) : (l.drop o).take k ++ [l.getD (o + k) 0] = (l.drop o).take (k + 1) := by
 have hl : k < (l.drop o).length := by rw [List.length_drop]; omega
 rw [List.take_succ_eq_append_getElem hl, List.getElem_drop, List.getD_eq_getElem?_getD, List.getElem?_eq_getElem h]; rfl
theorem fits_any (l : List Int) (o : Nat) (v : Value) (w : World) (h : RdI w v l) (hl : l.length ≤ 900) (ho : o ≤ l.length) (hb : ∀ x ∈ l, 0 ≤ x ∧ x < 65521) :
  Calls Tryd.prog 107 #[v, .int .i64 o] w fun e w' => (∃ p, e = .returned (.tuple #[p, .bool (fitO l o).isSome]) ∧ OwnI w' w.heap.size p ((fitO l o).getD [])) ∧ Below w.heap.size w w' := by
 obtain ⟨iI, hiI, hI0, hI1, hI2⟩ := info_parts infoI
 obtain ⟨iR, hiR, hR0, hR1, hR2⟩ := info_parts infoR
 obtain ⟨A, c, rfl, h1, h2, h3⟩ := h.open_
 have hmk := run_make_row' (P := Tryd.prog) 22 3 _ _ Tryd.underlying22 infoI rfl .i64 .i64 o (by omega) (by omega)
 have hsol := Lib.hid (fun rv bv W hrv hbv => Solution_any (rowsL l o) (l.drop o) (l.length - o) o rv bv W hrv hbv (okM_rowsL hb o) (by simp) (fun x hx => hb x (List.mem_of_mem_drop hx)) (by omega) (by omega))
 have hF : Hid (fitO l o = solvedM (rowsL l o) (l.drop o) o) := Lib.hid rfl
 have hrl := Lib.hid (fun r (hr : r ∈ rowsL l o) => ((okM_rowsL hb o).2 r hr).1)
 have hlr := Lib.hid (show (rowsL l o).length = l.length - o by unfold rowsL; exact mat_len _ _ _)
 have hrt := Lib.hid (fun k (hk : k < l.length - o) => show (rowsL l o).take k ++ [(List.range o).map fun j => l.getD (o + k - 1 - j) 0] = (rowsL l o).take (k + 1) from mat_take _ hk)
 have hdt := Lib.hid (fun k (hk : o + k < l.length) => drop_take_snoc l hk)
 have hdl := Lib.hid (show (l.drop o).length = l.length - o by simp)
 generalize rowsL l o = RS at *
 generalize l.drop o = BS at *
 generalize fitO l o = FO at *
 have hx := Lib.hid (fun k (hk : k < l.length) => h3 k hk)
 clear h3 h hb
 obtain ⟨f, hf⟩ : ∃ f : Nat → Int, f = fun k => l.getD k 0 := ⟨_, rfl⟩
 have hfe : ∀ k, l.getD k 0 = f k := fun k => by rw [hf]
 simp only [hfe] at hx hrt hdt
 clear hf hfe
 generalize l.length = N at *
 go_enter Tryd.func107, Tryd.ntmps107
 go_wp2
 go_loopw [6, 7, 8] (fun rv bv ii wr => ∃ k : Nat, k ≤ N - o ∧ ii = .int .i64 ((o + k : Nat) : Int) ∧ Hid (Below w.heap.size w wr) ∧ Hid (∃ vs, FitSt w.heap.size wr rv bv (RS.take k) (BS.take k) vs)) (fun _ _ ii _ => N - (intOf ii).toNat)
 case atStart => exact ⟨0, Nat.zero_le _, by simp, Lib.hid (Below.refl _ _), Lib.hid ⟨[], by rw [List.take_zero, List.take_zero]; exact ⟨OwnMv_nil _ _, OwnI_nil _ _, fun u hu => by cases hu⟩⟩⟩
 case round =>
  obtain ⟨k, hk, rfl, hB, hM⟩ := hrel
  rename Value => bv
  rename_i rv
  by_cases hlt : o + k < N
  ·have hkl : (RS.take k).length = k := by rw [List.length_take, hlr.out]; omega
   have hbl : (BS.take k).length = k := by rw [List.length_take, hdl.out]; omega
   have hrt1 := Lib.hid (hrt.out k (by omega))
   have hdt1 := Lib.hid (hdt.out k hlt)
   obtain ⟨vs, hSt⟩ := hM.out
   obtain ⟨A1, c1, rfl⟩ := own_shape hSt.m.outer
   obtain ⟨B1, d1, rfl⟩ := own_shape hSt.b
   rw [hkl, hbl] at hSt ⊢
   have hvs : vs.length = k := by rw [hSt.m.len, hkl]
   have hrvl : Hid (∀ q, (Value.slice A1 k c1).ownBlock = some q → q < wr.heap.size) := Lib.hid (fun q hq => by
    have := hSt.m.outer; rw [hkl] at this; exact (this.lt q hq).2)
   have hbvl : Hid (∀ q, (Value.slice B1 k d1).ownBlock = some q → q < wr.heap.size) := Lib.hid (fun q hq => by
    have := hSt.b; unfold OwnI at this; rw [hbl] at this; exact (this.lt q hq).2)
   have hvsl : Hid (∀ u ∈ vs, ∀ q, u.ownBlock = some q → q < wr.heap.size) := Lib.hid (fun u hu q hq => (hSt.m.ge u hu q hq).2)
   replace hSt := Lib.hid hSt
   replace hkl := Lib.hid hkl
   replace hbl := Lib.hid hbl
   have hBs := hB.out.size
   have h0 := Lib.hid (OwnI_made wr wr.heap.size o (Nat.le_refl _) (by unfold maxLen; omega))
   have hB0 : Hid (Below wr.heap.size wr (wr.alloc (.cells (madeCells #[.int .i64 0] o) 3))) := Lib.hid ((Below.refl _ _).alloc (Nat.le_refl _) _)
   have n1 : ((o + k : Nat) : Int) < (N : Int) := by omega
   have n0 : (0 : Int) ≤ ((o + k : Nat) : Int) := by omega
   clear hM hvs
   generalize hn : o + k = n at *
   replace hn := Lib.hid hn
   go_wp2
   generalize wr.alloc (.cells (madeCells #[.int .i64 0] o) 3) = w1 at h0 hB0 ⊢
   go_loopw [10] (fun jj wr2 => ∃ j : Nat, j ≤ o ∧ jj = .int .i64 j ∧ Hid (Below wr.heap.size wr wr2) ∧ Hid (OwnI wr2 wr.heap.size (.slice (some ⟨wr.heap.size, 0, none⟩) o o) (rowP (fun j => f (n - 1 - j)) o j))) (fun jj _ => o - (intOf jj).toNat)
   case atStart => exact ⟨0, Nat.zero_le _, rfl, hB0, Lib.hid (by rw [rowP_zero]; exact h0.out)⟩
   case round =>
    obtain ⟨j, hj, rfl, hB2, hX⟩ := hrel
    rename World => wr2
    by_cases hjo : j < o
    ·obtain ⟨bb, ob, rfl, hc⟩ := hx.out (n - 1 - j) (by omega)
     have hc' := ((hB.out.trans (hB2.out.mono hBs)).cell (World.block_lt_of_cell? w _ hc)).trans hc
     obtain ⟨hxc, hxf⟩ := hX.out.num (k := j) (by rw [rowP_len]; exact hjo)
     have hput := hX.out.put j (f (n - 1 - j))
     rw [rowP_set (fun j => f (n - 1 - j)) hjo] at hput
     have hB3 : Hid (Below wr.heap.size wr (wr2.setCell ⟨wr.heap.size, j, none⟩ (.int .i64 (f (n - 1 - j))))) := Lib.hid (hB2.out.setCell (Nat.le_refl _) _)
     replace hput := Lib.hid hput
     clear hc hX hB2
     have e1 : ((n : Int) - 1 - (j : Int)) = ((n - 1 - j : Nat) : Int) := by have := hn.out; omega
     generalize f (n - 1 - j) = y at *
     generalize (rowP (fun j => f (n - 1 - j)) o j).getD j 0 = z at hxc
     have q1 : (j : Int) < (o : Int) := by omega
     have q0 : (0 : Int) ≤ (j : Int) := by omega
     have q2 : ((n - 1 - j : Nat) : Int) < (N : Int) := by omega
     have q3 : (0 : Int) ≤ ((n - 1 - j : Nat) : Int) := by omega
     generalize hp : n - 1 - j = p at *
     replace hp := Lib.hid hp
     go_wp2
     go_roundw
     case rel => exact ⟨j + 1, by omega, by go_num, hB3, hput⟩
     case measure => simp [intOf] <;> omega
    ·obtain rfl : j = o := by omega
     rw [rowP_end] at hX
     have hrw : Hid ((List.range j).map (fun k => f (n - 1 - k)) = (List.range j).map fun j => f (n - 1 - j)) := Lib.hid rfl
     obtain ⟨row, hrow⟩ : ∃ row, row = (List.range j).map fun j => f (n - 1 - j) := ⟨_, rfl⟩
     rw [← hrow] at hX hrt1
     obtain ⟨bx, ox, rfl, hcx⟩ := hx.out n (by omega)
     have HSw : Hid (∀ W, Below w.heap.size w W → W.cell? ⟨bx, ox + n, none⟩ = some (.int .i64 (f n))) := Lib.hid (fun W hW => (hW.cell (World.block_lt_of_cell? w _ hcx)).trans hcx)
     have tw := Lib.hid (hB.out.trans (hB2.out.mono hBs))
     have sd := Lib.hid (hSt.out.kept hB2.out)
     have zw := hB2.out.size
     have hjl : Hid (row.length = j) := Lib.hid (by rw [hrow]; simp)
     clear hcx hrow hrw hmk
     generalize f n = x at *
     have HS0 := HSw.out wr2.drew tw.out.drew
     go_wp2
     refine D_begin (fun w' => w'.cell? ⟨bx, ox + n, none⟩ = some (.int .i64 x)) (fun _ => True) 12 (by kernel_rfl) ?_
     change wpAnyD _ _ _ _ _ _ _ _ _ _ wr2.drew
     simp only [List.size_toArray, List.length_cons, List.length_nil, Nat.reduceAdd, Array.replicate_succ, Array.replicate_zero, List.push_toArray, List.append_toArray, List.nil_append, List.cons_append]
     refine Dt 0 rfl ?_ HS0 (fun _ => trivial) ?_ ?_
     rotate_left; · intro w1 hw1; go_simp; try with_reducible rfl
     try simp only [Act.put, s_1, s_2, s_3, s_4, s_5, s_6]
     refine Dt 1 rfl ?_ HS0 (fun _ => trivial) ?_ ?_
     rotate_left; · intro w1 hw1; go_simp; try with_reducible rfl
     try simp only [Act.put, s_1, s_2, s_3, s_4, s_5, s_6]
     refine Dt 4 rfl ?_ HS0 (fun _ => trivial) ?_ ?_
     rotate_left; · intro w1 hw1; go_simp; try with_reducible rfl
     try simp only [Act.put, s_1, s_2, s_3, s_4, s_5, s_6]
     refine Dt 5 rfl ?_ HS0 (fun _ => trivial) ?_ ?_
     rotate_left; · intro w1 hw1; go_simp; try with_reducible rfl
     try simp only [Act.put, s_1, s_2, s_3, s_4, s_5, s_6]
     refine Dt 6 rfl ?_ HS0 (fun _ => trivial) ?_ ?_
     rotate_left; · intro w1 hw1; go_simp; try with_reducible rfl
     try simp only [Act.put, s_1, s_2, s_3, s_4, s_5, s_6]
     refine Dt 7 rfl ?_ HS0 (fun _ => trivial) ?_ ?_
     rotate_left; · intro w1 hw1; go_simp; try with_reducible rfl
     try simp only [Act.put, s_1, s_2, s_3, s_4, s_5, s_6]
     refine Dt 8 rfl ?_ HS0 (fun _ => trivial) ?_ ?_
     rotate_left; · intro w1 hw1; go_simp; try with_reducible rfl
     try simp only [Act.put, s_1, s_2, s_3, s_4, s_5, s_6]
     replace tw := Lib.hid tw.out.drew
     have hdd : Below wr2.heap.size wr2 wr2.drew := (Below.refl _ _).drew
     replace sd := Lib.hid (sd.out.kept hdd)
     replace hX := Lib.hid (hX.out.below hdd)
     have zd : wr.heap.size ≤ wr2.drew.heap.size := zw
     clear hdd HS0 hB2 zw
     generalize wr2.drew = Wd at *
     have t_Wd := tw
     have st_Wd := sd
     have r_Wd := hX
     have zd_Wd := zd
     clear tw sd hX zd
     refine D_two (i := 2) (j := 9) (by kernel_rfl) rfl rfl ?_ ?_
     ·intro K hK
      rw [if_pos (by rfl)]
      go_simp
      have hb : Below Wd.heap.size Wd (Wd.alloc (.cells #[.slice (some ⟨wr.heap.size, 0, none⟩) j j] 22)) := (Below.refl _ _).alloc (Nat.le_refl _) _
      have t_W1 := Lib.hid (t_Wd.out.alloc (t_Wd.out.size) (.cells #[.slice (some ⟨wr.heap.size, 0, none⟩) j j] 22))
      have st_W1 := Lib.hid (st_Wd.out.kept hb)
      have zd_W1 : wr.heap.size ≤ (Wd.alloc (.cells #[.slice (some ⟨wr.heap.size, 0, none⟩) j j] 22)).heap.size := Nat.le_trans zd_Wd hb.size
      have r_W1 := Lib.hid (r_Wd.out.below hb)
      have s2_W1 : Hid (∀ (q : Nat) u, [.slice (some ⟨wr.heap.size, 0, none⟩) j j][q]? = some u → (Wd.alloc (.cells #[.slice (some ⟨wr.heap.size, 0, none⟩) j j] 22)).cell? ((⟨Wd.heap.size, 0, none⟩ : Addr).add q) = some u) := Lib.hid (cell_one_new Wd _ _)
      have l2_W1 : Wd.heap.size < (Wd.alloc (.cells #[.slice (some ⟨wr.heap.size, 0, none⟩) j j] 22)).heap.size := by simp
      refine hK _ _ (HSw.out _ t_W1.out) (fun _ _ => trivial) ?_
      try simp only [Act.put, Nat.zero_add, List.getElem_toArray, List.getElem_cons_zero, List.getElem_cons_succ, List.setIfInBounds_toArray, List.set_cons_zero, List.set_cons_succ]
      clear hK K hb
      generalize hg_W1 : Wd.alloc (.cells #[.slice (some ⟨wr.heap.size, 0, none⟩) j j] 22) = W1 at t_W1 st_W1 zd_W1 r_W1 s2_W1 l2_W1 ⊢
      replace hg_W1 := Lib.hid hg_W1
      refine D_two (i := 3) (j := 9) (by kernel_rfl) rfl rfl ?_ ?_
      ·intro K hK
       refine step_append_lies _ (by rfl) _ _ _ (by rfl) w.heap.size 22 iR _ 1 24 Tryd.underlying59 hiR hR0 hR1 hR2 rfl (by omega) (.slice A1 k c1) k vs (by rfl) (by have := st_W1.out.m.outer; rwa [hkl.out] at this) ⟨Wd.heap.size, 0, none⟩ 1 1 [.slice (some ⟨wr.heap.size, 0, none⟩) j j] (by rfl) (by rfl) s2_W1.out (by simp [Value.oneCell']) (by omega) (by unfold maxLen; omega) (by omega) (t_W1.out.size) W1.heap.size rfl ?_
       intro g3 cap3 W2 hown3 hgrow3 hat3 hlt3
       have t_W2 := Lib.hid (t_W1.out.grown hgrow3 (t_W1.out.size) (fun q hq => by have := st_W1.out.m.outer; rw [hkl.out] at this; exact (this.lt q hq).1))
       have st_W2 := Lib.hid (st_W1.out.row r_W1.out hBs (fun q hq => by have e : wr.heap.size = q := (by simpa [Value.ownBlock] using hq); exact ⟨fun u hu hc => by have := hvsl.out u hu q hc; omega, fun hc => by have := hbvl.out q hc; omega⟩) (by rw [hkl.out]) hown3 hgrow3)
       have zd_W2 : wr.heap.size ≤ W2.heap.size := Nat.le_trans zd_W1 hgrow3.size
       clear hown3 hgrow3 hat3 hlt3
       refine hK _ _ (HSw.out _ t_W2.out) (fun _ _ => trivial) ?_
       try simp only [Act.put, Nat.zero_add, List.getElem_toArray, List.getElem_cons_zero, List.getElem_cons_succ, List.setIfInBounds_toArray, List.set_cons_zero, List.set_cons_succ]
       clear hK K
       refine D_one (i := 9) (by kernel_rfl) rfl ?_
       intro K hK
       rw [if_pos (by rfl)]
       go_simp
       have hb : Below W2.heap.size W2 (W2.alloc (.cells #[.int .i64 x] 3)) := (Below.refl _ _).alloc (Nat.le_refl _) _
       have t_W3 := Lib.hid (t_W2.out.alloc (t_W2.out.size) (.cells #[.int .i64 x] 3))
       have st_W3 := Lib.hid (st_W2.out.kept hb)
       have zd_W3 : wr.heap.size ≤ (W2.alloc (.cells #[.int .i64 x] 3)).heap.size := Nat.le_trans zd_W2 hb.size
       have s9_W3 : Hid (∀ (q : Nat) u, [.int .i64 x][q]? = some u → (W2.alloc (.cells #[.int .i64 x] 3)).cell? ((⟨W2.heap.size, 0, none⟩ : Addr).add q) = some u) := Lib.hid (cell_one_new W2 _ _)
       have l9_W3 : W2.heap.size < (W2.alloc (.cells #[.int .i64 x] 3)).heap.size := by simp
       refine hK _ _ (HSw.out _ t_W3.out) (fun _ _ => trivial) ?_
       try simp only [Act.put, Nat.zero_add, List.getElem_toArray, List.getElem_cons_zero, List.getElem_cons_succ, List.setIfInBounds_toArray, List.set_cons_zero, List.set_cons_succ]
       clear hK K hb
       generalize hg_W3 : W2.alloc (.cells #[.int .i64 x] 3) = W3 at t_W3 st_W3 zd_W3 s9_W3 l9_W3 ⊢
       replace hg_W3 := Lib.hid hg_W3
       refine D_one (i := 10) (by kernel_rfl) rfl ?_
       intro K hK
       refine step_append_lies _ (by rfl) _ _ _ (by rfl) w.heap.size 3 iI _ 1 8 Tryd.underlying22 hiI hI0 hI1 hI2 rfl (by omega) (.slice B1 k d1) k (ints (BS.take k)) (by rfl) (by have := st_W3.out.b; unfold OwnI at this; rwa [hbl.out] at this) ⟨W2.heap.size, 0, none⟩ 1 1 [.int .i64 x] (by rfl) (by rfl) s9_W3.out (by simp [Value.oneCell']) (by omega) (by unfold maxLen; omega) (by omega) (t_W3.out.size) W3.heap.size rfl ?_
       intro g4 cap4 W4 hown4 hgrow4 hat4 hlt4
       have t_W4 := Lib.hid (t_W3.out.grown hgrow4 (t_W3.out.size) (fun q hq => by have := st_W3.out.b; unfold OwnI at this; rw [hbl.out] at this; exact (this.lt q hq).1))
       have st_W4 := Lib.hid (st_W3.out.num (by rw [hbl.out]) hown4 hgrow4 hat4 rfl)
       rw [hrt1.out, hdt1.out] at st_W4
       clear hown4 hgrow4 hat4 hlt4
       refine hK _ _ (HSw.out _ t_W4.out) (fun _ _ => trivial) ?_
       try simp only [Act.put, Nat.zero_add, List.getElem_toArray, List.getElem_cons_zero, List.getElem_cons_succ, List.setIfInBounds_toArray, List.set_cons_zero, List.set_cons_succ]
       clear hK K
       refine D_one (i := 11) (by kernel_rfl) rfl ?_
       intro K hK
       rw [if_pos (by rfl)]
       go_simp
       refine hK _ _ (HSw.out _ t_W4.out) (fun _ _ => trivial) ?_
       try simp only [Act.put, Nat.zero_add, List.getElem_toArray, List.getElem_cons_zero, List.getElem_cons_succ, List.setIfInBounds_toArray, List.set_cons_zero, List.set_cons_succ]
       clear hK K
       refine D_one (i := 12) (by kernel_rfl) rfl ?_
       intro K hK
       rw [if_pos (by rfl)]
       go_simp
       refine hK _ _ (HSw.out _ t_W4.out) (fun _ _ => trivial) ?_
       try simp only [Act.put, Nat.zero_add, List.getElem_toArray, List.getElem_cons_zero, List.getElem_cons_succ, List.setIfInBounds_toArray, List.set_cons_zero, List.set_cons_succ]
       clear hK K
       refine D_done (by kernel_rfl) ?_ _
       go_wp2
       go_roundw
       case rel => exact ⟨k + 1, by have := hn.out; omega, by have := hn.out; go_num, t_W4, Lib.hid ⟨_, st_W4.out⟩⟩
       case measure => simp [intOf] <;> omega
      ·intro K hK
       rw [if_pos (by rfl)]
       go_simp
       have hb : Below W1.heap.size W1 (W1.alloc (.cells #[.int .i64 x] 3)) := (Below.refl _ _).alloc (Nat.le_refl _) _
       have t_W5 := Lib.hid (t_W1.out.alloc (t_W1.out.size) (.cells #[.int .i64 x] 3))
       have st_W5 := Lib.hid (st_W1.out.kept hb)
       have zd_W5 : wr.heap.size ≤ (W1.alloc (.cells #[.int .i64 x] 3)).heap.size := Nat.le_trans zd_W1 hb.size
       have r_W5 := Lib.hid (r_W1.out.below hb)
       have s2_W5 : Hid (∀ (q : Nat) u, [.slice (some ⟨wr.heap.size, 0, none⟩) j j][q]? = some u → (W1.alloc (.cells #[.int .i64 x] 3)).cell? ((⟨Wd.heap.size, 0, none⟩ : Addr).add q) = some u) := Lib.hid (fun q u hj => (hb.cell (World.block_lt_of_cell? _ _ (s2_W1.out q u hj))).trans (s2_W1.out q u hj))
       have s9_W5 : Hid (∀ (q : Nat) u, [.int .i64 x][q]? = some u → (W1.alloc (.cells #[.int .i64 x] 3)).cell? ((⟨W1.heap.size, 0, none⟩ : Addr).add q) = some u) := Lib.hid (cell_one_new W1 _ _)
       have l9_W5 : W1.heap.size < (W1.alloc (.cells #[.int .i64 x] 3)).heap.size := by simp
       refine hK _ _ (HSw.out _ t_W5.out) (fun _ _ => trivial) ?_
       try simp only [Act.put, Nat.zero_add, List.getElem_toArray, List.getElem_cons_zero, List.getElem_cons_succ, List.setIfInBounds_toArray, List.set_cons_zero, List.set_cons_succ]
       clear hK K hb
       generalize hg_W5 : W1.alloc (.cells #[.int .i64 x] 3) = W5 at t_W5 st_W5 zd_W5 r_W5 s2_W5 s9_W5 l9_W5 ⊢
       replace hg_W5 := Lib.hid hg_W5
       refine D_one (i := 3) (by kernel_rfl) rfl ?_
       intro K hK
       refine step_append_lies _ (by rfl) _ _ _ (by rfl) w.heap.size 22 iR _ 1 24 Tryd.underlying59 hiR hR0 hR1 hR2 rfl (by omega) (.slice A1 k c1) k vs (by rfl) (by have := st_W5.out.m.outer; rwa [hkl.out] at this) ⟨Wd.heap.size, 0, none⟩ 1 1 [.slice (some ⟨wr.heap.size, 0, none⟩) j j] (by rfl) (by rfl) s2_W5.out (by simp [Value.oneCell']) (by omega) (by unfold maxLen; omega) (by omega) (t_W5.out.size) W5.heap.size rfl ?_
       intro g3 cap3 W6 hown3 hgrow3 hat3 hlt3
       have t_W6 := Lib.hid (t_W5.out.grown hgrow3 (t_W5.out.size) (fun q hq => by have := st_W5.out.m.outer; rw [hkl.out] at this; exact (this.lt q hq).1))
       have st_W6 := Lib.hid (st_W5.out.row r_W5.out hBs (fun q hq => by have e : wr.heap.size = q := (by simpa [Value.ownBlock] using hq); exact ⟨fun u hu hc => by have := hvsl.out u hu q hc; omega, fun hc => by have := hbvl.out q hc; omega⟩) (by rw [hkl.out]) hown3 hgrow3)
       have zd_W6 : wr.heap.size ≤ W6.heap.size := Nat.le_trans zd_W5 hgrow3.size
       have s9_W6 : Hid (∀ (q : Nat) u, [.int .i64 x][q]? = some u → W6.cell? ((⟨W1.heap.size, 0, none⟩ : Addr).add q) = some u) := Lib.hid (fun q u hj => (hgrow3.cell_far _ (World.block_lt_of_cell? _ _ (s9_W5.out q u hj)) (by rw [add_off]; intro e; have := hrvl.out W1.heap.size e.symm; omega)).trans (s9_W5.out q u hj))
       clear hown3 hgrow3 hat3 hlt3
       refine hK _ _ (HSw.out _ t_W6.out) (fun _ _ => trivial) ?_
       try simp only [Act.put, Nat.zero_add, List.getElem_toArray, List.getElem_cons_zero, List.getElem_cons_succ, List.setIfInBounds_toArray, List.set_cons_zero, List.set_cons_succ]
       clear hK K
       refine D_one (i := 10) (by kernel_rfl) rfl ?_
       intro K hK
       refine step_append_lies _ (by rfl) _ _ _ (by rfl) w.heap.size 3 iI _ 1 8 Tryd.underlying22 hiI hI0 hI1 hI2 rfl (by omega) (.slice B1 k d1) k (ints (BS.take k)) (by rfl) (by have := st_W6.out.b; unfold OwnI at this; rwa [hbl.out] at this) ⟨W1.heap.size, 0, none⟩ 1 1 [.int .i64 x] (by rfl) (by rfl) s9_W6.out (by simp [Value.oneCell']) (by omega) (by unfold maxLen; omega) (by omega) (t_W6.out.size) W6.heap.size rfl ?_
       intro g4 cap4 W7 hown4 hgrow4 hat4 hlt4
       have t_W7 := Lib.hid (t_W6.out.grown hgrow4 (t_W6.out.size) (fun q hq => by have := st_W6.out.b; unfold OwnI at this; rw [hbl.out] at this; exact (this.lt q hq).1))
       have st_W7 := Lib.hid (st_W6.out.num (by rw [hbl.out]) hown4 hgrow4 hat4 rfl)
       rw [hrt1.out, hdt1.out] at st_W7
       clear hown4 hgrow4 hat4 hlt4
       refine hK _ _ (HSw.out _ t_W7.out) (fun _ _ => trivial) ?_
       try simp only [Act.put, Nat.zero_add, List.getElem_toArray, List.getElem_cons_zero, List.getElem_cons_succ, List.setIfInBounds_toArray, List.set_cons_zero, List.set_cons_succ]
       clear hK K
       refine D_one (i := 11) (by kernel_rfl) rfl ?_
       intro K hK
       rw [if_pos (by rfl)]
       go_simp
       refine hK _ _ (HSw.out _ t_W7.out) (fun _ _ => trivial) ?_
       try simp only [Act.put, Nat.zero_add, List.getElem_toArray, List.getElem_cons_zero, List.getElem_cons_succ, List.setIfInBounds_toArray, List.set_cons_zero, List.set_cons_succ]
       clear hK K
       refine D_one (i := 12) (by kernel_rfl) rfl ?_
       intro K hK
       rw [if_pos (by rfl)]
       go_simp
       refine hK _ _ (HSw.out _ t_W7.out) (fun _ _ => trivial) ?_
       try simp only [Act.put, Nat.zero_add, List.getElem_toArray, List.getElem_cons_zero, List.getElem_cons_succ, List.setIfInBounds_toArray, List.set_cons_zero, List.set_cons_succ]
       clear hK K
       refine D_done (by kernel_rfl) ?_ _
       go_wp2
       go_roundw
       case rel => exact ⟨k + 1, by have := hn.out; omega, by have := hn.out; go_num, t_W7, Lib.hid ⟨_, st_W7.out⟩⟩
       case measure => simp [intOf] <;> omega
     ·intro K hK
      rw [if_pos (by rfl)]
      go_simp
      have hb : Below Wd.heap.size Wd (Wd.alloc (.cells #[.int .i64 x] 3)) := (Below.refl _ _).alloc (Nat.le_refl _) _
      have t_W8 := Lib.hid (t_Wd.out.alloc (t_Wd.out.size) (.cells #[.int .i64 x] 3))
      have st_W8 := Lib.hid (st_Wd.out.kept hb)
      have zd_W8 : wr.heap.size ≤ (Wd.alloc (.cells #[.int .i64 x] 3)).heap.size := Nat.le_trans zd_Wd hb.size
      have r_W8 := Lib.hid (r_Wd.out.below hb)
      have s9_W8 : Hid (∀ (q : Nat) u, [.int .i64 x][q]? = some u → (Wd.alloc (.cells #[.int .i64 x] 3)).cell? ((⟨Wd.heap.size, 0, none⟩ : Addr).add q) = some u) := Lib.hid (cell_one_new Wd _ _)
      have l9_W8 : Wd.heap.size < (Wd.alloc (.cells #[.int .i64 x] 3)).heap.size := by simp
      refine hK _ _ (HSw.out _ t_W8.out) (fun _ _ => trivial) ?_
      try simp only [Act.put, Nat.zero_add, List.getElem_toArray, List.getElem_cons_zero, List.getElem_cons_succ, List.setIfInBounds_toArray, List.set_cons_zero, List.set_cons_succ]
      clear hK K hb
      generalize hg_W8 : Wd.alloc (.cells #[.int .i64 x] 3) = W8 at t_W8 st_W8 zd_W8 r_W8 s9_W8 l9_W8 ⊢
      replace hg_W8 := Lib.hid hg_W8
      refine D_one (i := 2) (by kernel_rfl) rfl ?_
      intro K hK
      rw [if_pos (by rfl)]
      go_simp
      have hb : Below W8.heap.size W8 (W8.alloc (.cells #[.slice (some ⟨wr.heap.size, 0, none⟩) j j] 22)) := (Below.refl _ _).alloc (Nat.le_refl _) _
      have t_W9 := Lib.hid (t_W8.out.alloc (t_W8.out.size) (.cells #[.slice (some ⟨wr.heap.size, 0, none⟩) j j] 22))
      have st_W9 := Lib.hid (st_W8.out.kept hb)
      have zd_W9 : wr.heap.size ≤ (W8.alloc (.cells #[.slice (some ⟨wr.heap.size, 0, none⟩) j j] 22)).heap.size := Nat.le_trans zd_W8 hb.size
      have r_W9 := Lib.hid (r_W8.out.below hb)
      have s9_W9 : Hid (∀ (q : Nat) u, [.int .i64 x][q]? = some u → (W8.alloc (.cells #[.slice (some ⟨wr.heap.size, 0, none⟩) j j] 22)).cell? ((⟨Wd.heap.size, 0, none⟩ : Addr).add q) = some u) := Lib.hid (fun q u hj => (hb.cell (World.block_lt_of_cell? _ _ (s9_W8.out q u hj))).trans (s9_W8.out q u hj))
      have s2_W9 : Hid (∀ (q : Nat) u, [.slice (some ⟨wr.heap.size, 0, none⟩) j j][q]? = some u → (W8.alloc (.cells #[.slice (some ⟨wr.heap.size, 0, none⟩) j j] 22)).cell? ((⟨W8.heap.size, 0, none⟩ : Addr).add q) = some u) := Lib.hid (cell_one_new W8 _ _)
      have l2_W9 : W8.heap.size < (W8.alloc (.cells #[.slice (some ⟨wr.heap.size, 0, none⟩) j j] 22)).heap.size := by simp
      refine hK _ _ (HSw.out _ t_W9.out) (fun _ _ => trivial) ?_
      try simp only [Act.put, Nat.zero_add, List.getElem_toArray, List.getElem_cons_zero, List.getElem_cons_succ, List.setIfInBounds_toArray, List.set_cons_zero, List.set_cons_succ]
      clear hK K hb
      generalize hg_W9 : W8.alloc (.cells #[.slice (some ⟨wr.heap.size, 0, none⟩) j j] 22) = W9 at t_W9 st_W9 zd_W9 r_W9 s9_W9 s2_W9 l2_W9 ⊢
      replace hg_W9 := Lib.hid hg_W9
      refine D_one (i := 3) (by kernel_rfl) rfl ?_
      intro K hK
      refine step_append_lies _ (by rfl) _ _ _ (by rfl) w.heap.size 22 iR _ 1 24 Tryd.underlying59 hiR hR0 hR1 hR2 rfl (by omega) (.slice A1 k c1) k vs (by rfl) (by have := st_W9.out.m.outer; rwa [hkl.out] at this) ⟨W8.heap.size, 0, none⟩ 1 1 [.slice (some ⟨wr.heap.size, 0, none⟩) j j] (by rfl) (by rfl) s2_W9.out (by simp [Value.oneCell']) (by omega) (by unfold maxLen; omega) (by omega) (t_W9.out.size) W9.heap.size rfl ?_
      intro g3 cap3 W10 hown3 hgrow3 hat3 hlt3
      have t_W10 := Lib.hid (t_W9.out.grown hgrow3 (t_W9.out.size) (fun q hq => by have := st_W9.out.m.outer; rw [hkl.out] at this; exact (this.lt q hq).1))
      have st_W10 := Lib.hid (st_W9.out.row r_W9.out hBs (fun q hq => by have e : wr.heap.size = q := (by simpa [Value.ownBlock] using hq); exact ⟨fun u hu hc => by have := hvsl.out u hu q hc; omega, fun hc => by have := hbvl.out q hc; omega⟩) (by rw [hkl.out]) hown3 hgrow3)
      have zd_W10 : wr.heap.size ≤ W10.heap.size := Nat.le_trans zd_W9 hgrow3.size
      have s9_W10 : Hid (∀ (q : Nat) u, [.int .i64 x][q]? = some u → W10.cell? ((⟨Wd.heap.size, 0, none⟩ : Addr).add q) = some u) := Lib.hid (fun q u hj => (hgrow3.cell_far _ (World.block_lt_of_cell? _ _ (s9_W9.out q u hj)) (by rw [add_off]; intro e; have := hrvl.out Wd.heap.size e.symm; omega)).trans (s9_W9.out q u hj))
      clear hown3 hgrow3 hat3 hlt3
      refine hK _ _ (HSw.out _ t_W10.out) (fun _ _ => trivial) ?_
      try simp only [Act.put, Nat.zero_add, List.getElem_toArray, List.getElem_cons_zero, List.getElem_cons_succ, List.setIfInBounds_toArray, List.set_cons_zero, List.set_cons_succ]
      clear hK K
      refine D_one (i := 10) (by kernel_rfl) rfl ?_
      intro K hK
      refine step_append_lies _ (by rfl) _ _ _ (by rfl) w.heap.size 3 iI _ 1 8 Tryd.underlying22 hiI hI0 hI1 hI2 rfl (by omega) (.slice B1 k d1) k (ints (BS.take k)) (by rfl) (by have := st_W10.out.b; unfold OwnI at this; rwa [hbl.out] at this) ⟨Wd.heap.size, 0, none⟩ 1 1 [.int .i64 x] (by rfl) (by rfl) s9_W10.out (by simp [Value.oneCell']) (by omega) (by unfold maxLen; omega) (by omega) (t_W10.out.size) W10.heap.size rfl ?_
      intro g4 cap4 W11 hown4 hgrow4 hat4 hlt4
      have t_W11 := Lib.hid (t_W10.out.grown hgrow4 (t_W10.out.size) (fun q hq => by have := st_W10.out.b; unfold OwnI at this; rw [hbl.out] at this; exact (this.lt q hq).1))
      have st_W11 := Lib.hid (st_W10.out.num (by rw [hbl.out]) hown4 hgrow4 hat4 rfl)
      rw [hrt1.out, hdt1.out] at st_W11
      clear hown4 hgrow4 hat4 hlt4
      refine hK _ _ (HSw.out _ t_W11.out) (fun _ _ => trivial) ?_
      try simp only [Act.put, Nat.zero_add, List.getElem_toArray, List.getElem_cons_zero, List.getElem_cons_succ, List.setIfInBounds_toArray, List.set_cons_zero, List.set_cons_succ]
      clear hK K
      refine D_one (i := 11) (by kernel_rfl) rfl ?_
      intro K hK
      rw [if_pos (by rfl)]
      go_simp
      refine hK _ _ (HSw.out _ t_W11.out) (fun _ _ => trivial) ?_
      try simp only [Act.put, Nat.zero_add, List.getElem_toArray, List.getElem_cons_zero, List.getElem_cons_succ, List.setIfInBounds_toArray, List.set_cons_zero, List.set_cons_succ]
      clear hK K
      refine D_one (i := 12) (by kernel_rfl) rfl ?_
      intro K hK
      rw [if_pos (by rfl)]
      go_simp
      refine hK _ _ (HSw.out _ t_W11.out) (fun _ _ => trivial) ?_
      try simp only [Act.put, Nat.zero_add, List.getElem_toArray, List.getElem_cons_zero, List.getElem_cons_succ, List.setIfInBounds_toArray, List.set_cons_zero, List.set_cons_succ]
      clear hK K
      refine D_done (by kernel_rfl) ?_ _
      go_wp2
      go_roundw
      case rel => exact ⟨k + 1, by have := hn.out; omega, by have := hn.out; go_num, t_W11, Lib.hid ⟨_, st_W11.out⟩⟩
      case measure => simp [intOf] <;> omega
  ·obtain rfl : N - o = k := by omega
   obtain ⟨vs, hSt⟩ := hM.out
   rw [List.take_of_length_le (by rw [hlr.out]; exact Nat.le_refl _), List.take_of_length_le (by rw [hdl.out]; exact Nat.le_refl _)] at hSt
   have hs := Lib.hid (hsol.out _ _ wr (hSt.m.m.rd (by rw [hlr.out]; omega) (fun r hr => by have := hrl.out r hr; omega)) (hSt.b.rd (by rw [hdl.out]; omega)))
   rw [← hF.out] at hs
   have hBs := hB.out.size
   have n1 : ¬ ((o + (N - o) : Nat) : Int) < (N : Int) := by omega
   generalize hn : o + (N - o) = n at *
   clear hn hSt hM
   go_wp2_with fail
   refine hs.out.mono ?_; rintro e W3 ⟨⟨p, rfl, hO⟩, hB4⟩
   replace hO := Lib.hid hO
   replace hB4 := Lib.hid hB4
   go_wp2
   go_ret2
   exact ⟨⟨_, rfl, hO.out.base hBs⟩, hB.out.trans (hB4.out.mono hBs)⟩
end Go.Proofs.YtlpldfocljnpnaaDoor
namespace Go.Proofs.YtlpldfocljnpnaaDoor
open Go.RowKit Go.Shelf
theorem refFit_any (l : List Int) (v : Value) (w : World) (hl : l.length ≤ 800) (hr : ∀ x ∈ l, 0 ≤ x ∧ x < 65521) (h : RdI w v l) :
  Calls Tryd.prog 60 #[v] w (FitRes (fitM l 12) w) := by
 have hrd := Lib.hid h
 obtain ⟨A, c, rfl, l1, l2, -⟩ := h.open_
 have hbx : Below w.heap.size w (w.alloc (.cells #[.slice none 0 0, .slice none 0 0] 41)) := (Below.refl _ _).alloc (Nat.le_refl _) _
 have hgb : (w.alloc (.cells #[.slice none 0 0, .slice none 0 0] 41)).heap[w.heap.size]? = some (.cells #[.slice none 0 0, .slice none 0 0] 41 (0, 0)) := heap_alloc_new _ _
 have hsz : (w.alloc (.cells #[.slice none 0 0, .slice none 0 0] 41)).heap.size = w.heap.size + 1 := by simp
 have hmn : ∃ M, min 12 l.length = M ∧ M ≤ l.length ∧ M ≤ 12 := ⟨_, rfl, Nat.min_le_right _ _, Nat.min_le_left _ _⟩
 obtain ⟨M, hM, hMl, hM12⟩ := hmn
 have hF0 := Lib.hid (fun (h : ∀ o, o < M + 1 → fitO l o = none) => fitM_none hM h)
 have hF1 := Lib.hid (fun (k : Nat) by_ (hk : k < M + 1) (h : ∀ o, o < k → fitO l o = none) (hs : fitO l k = some by_) => fitM_some hM hk h hs)
 have hft := Lib.hid (fun k W (hk : k ≤ l.length) (hW : Below w.heap.size w W) => fits_any l k _ W (hrd.out.below hW (Nat.le_refl _)) (by omega) hk hr)
 clear h hr
 go_enter Tryd.func60, Tryd.ntmps60
 go_wp2
 generalize w.alloc (.cells #[.slice none 0 0, .slice none 0 0] 41) = X at hbx hgb hsz ⊢
 replace hbx := Lib.hid hbx
 replace hgb := Lib.hid hgb
 go_loopw [4, 5, 6] (fun i _ _ wr => ∃ k : Nat, k ≤ M + 1 ∧ i = .int .i64 k ∧ Hid (Below X.heap.size X wr) ∧ Hid (∀ o, o < k → fitO l o = none)) (fun i _ _ _ => M + 1 - (intOf i).toNat)
 case atStart => exact ⟨0, Nat.zero_le _, rfl, Lib.hid (Below.refl _ _), Lib.hid (fun o ho => by omega)⟩
 case round =>
  obtain ⟨k, hk, rfl, hB, hE⟩ := hrel
  have hwr := hB.out.size
  by_cases hlt : k < M + 1
  ·have k1 : (k : Int) ≤ 12 := by omega
   have k2 : (k : Int) ≤ (l.length : Int) := by omega
   have hs := Lib.hid (hft.out k wr (by omega) (Below.then_ hbx.out hB.out))
   generalize hfb : (fitO l k).isSome = fb at hs
   replace hfb := Lib.hid hfb
   go_wp2_with fail
   refine hs.out.mono ?_; rintro e W1 ⟨⟨v2, rfl, hO2⟩, hB1⟩
   obtain ⟨A2, c2, rfl⟩ : ∃ A c, v2 = .slice A ((fitO l k).getD []).length c := by have h := hO2; unfold OwnI at h; exact own_form h
   have hBF := Lib.hid (Below.then_ hB.out hB1)
   cases fb with
   | false =>
    have hE2 : Hid (∀ o, o < k + 1 → fitO l o = none) := Lib.hid (fun o ho => by
     by_cases e : o = k
     ·rw [e]; exact Option.not_isSome_iff_eq_none.1 (by rw [hfb.out]; decide)
     ·exact hE.out o (by omega))
    go_wp2
    go_roundw
    case rel => exact ⟨k + 1, by omega, by go_num, hBF, hE2⟩
    case measure => simp [intOf]; omega
   | true =>
    obtain ⟨by_, hby⟩ := Option.isSome_iff_exists.1 hfb.out
    have hr := Lib.hid (hF1.out k by_ hlt hE.out hby)
    have hs3 : ∀ W, (Instr.slice 22 (.slice A l.length c) none (some (.int .i64 k)) none).run Tryd.prog W = .ok (.slice A k c) W := fun W => run_upto A l.length c k W (by omega) l1
    have hal : Below W1.heap.size W1 (W1.alloc (.cells #[] 3)) := (Below.refl _ _).alloc (Nat.le_refl _) _
    have hB2 := Below.then_ hBF.out hal
    have htk := (hrd.out.below (Below.then_ hbx.out hB2) (Nat.le_refl _)).take (k := k) (by omega)
    have hlk : (l.take k).length = k := by rw [List.length_take]; omega
    have hown0 : (W1.alloc (.cells #[] 3)).ownsRow W1.heap.size 3 1 (.slice (some ⟨W1.heap.size, 0, none⟩) 0 0) 0 [] := World.ownsRow_made W1 #[] 0 (Nat.le_refl _) (by unfold maxLen; omega) rfl
    have hn : ((fitO l k).getD []).length = by_.length := by rw [hby]; rfl
    rw [hn]
    have hlk2 := Lib.hid hlk
    replace hown0 := Lib.hid hown0
    replace htk := Lib.hid htk
    have hw1 := hBF.out.size
    have kp := Lib.hid (fun W3 (hg : (W1.alloc (.cells #[] 3)).grownBy W3 (Value.slice (some ⟨W1.heap.size, 0, none⟩) 0 0).ownBlock) => ret_cell (((Below.then_ hBF.out (hal.grown hg hal.size (fun q hq => (hown0.out.lt q hq).1))).block w.heap.size (by omega)).trans hgb.out))
    go_wp2_with (at_builtin; (refine wpList_append_rd rfl _ _ rfl W1.heap.size (.slice (some ⟨W1.heap.size, 0, none⟩) 0 0) (.slice A k c) 0 [] (l.take k) rfl rfl hown0.out htk.out (by rw [hlk2.out]; omega) hal.size ?_); intro v3 W3 hown hgrow hat; obtain ⟨A3, c3, rfl⟩ := own_shape hown; obtain ⟨d0, d1, d2, d3⟩ := kp.out W3 hgrow)
    rw [List.nil_append] at hown
    have hB3 := Lib.hid (hal.grown hgrow hal.size (fun q hq => (hown0.out.lt q hq).1))
    rw [Nat.zero_add, hlk2.out] at hown
    have hO3 : OwnI W3 W1.heap.size (.slice A3 k c3) (l.take k) := by unfold OwnI; rw [hlk2.out]; exact hown
    have hO2f : OwnI W3 W1.heap.size (.slice A3 k c3) (l.take k) ∧ OwnI W3 X.heap.size (.slice A2 by_.length c2) by_ := ⟨hO3, by rw [hby] at hO2; exact (hO2.below hB3.out).base hwr⟩
    replace hO2f := Lib.hid hO2f
    have hBG := Lib.hid (Below.then_ hBF.out hB3.out)
    have hgb2 := (hBG.out.block w.heap.size (by omega)).trans hgb.out
    replace hgb2 := Lib.hid hgb2
    have hB6 := Lib.hid (Below.then_ hbx.out hBG.out)
    clear hn hown hgrow hat hlk2 hown0 hO2 hO3 htk hal hB2 hB3 hB1
    go_wp2
    refine bodyPost_ret (res_ct rfl _ _ w.heap.size 41 #[.slice A2 by_.length c2, .slice A3 k c3] (0, 0) _ rfl (heap_set2 _ _ hgb2.out) rfl rfl rfl) rfl ?_
    rw [hr.out]
    exact ⟨_, rfl, ⟨_, _, rfl, own_two hO2f.out.2 (by omega) (by omega) _ _, own_two hO2f.out.1 (by omega) (by omega) _ _⟩, (hB6.out.setCell (p := ⟨w.heap.size, 0, none⟩) (Nat.le_refl _) _).setCell (p := ⟨w.heap.size, 1, none⟩) (Nat.le_refl _) _⟩
  ·obtain rfl : k = M + 1 := by omega
   have hr := Lib.hid (hF0.out hE.out)
   have hgb2 := (hB.out.block w.heap.size (by omega)).trans hgb.out
   obtain ⟨d0, d1, d2, d3⟩ := ret_cell hgb2
   replace hgb2 := Lib.hid hgb2
   have hB2 := Lib.hid (Below.then_ hbx.out hB.out)
   by_cases q : M = 12
   ·have k1 : ¬ ((M : Int) + 1) ≤ 12 := by omega
    go_wp2
    refine bodyPost_ret (res_ct rfl _ _ w.heap.size 41 #[.slice none 0 0, .slice none 0 0] (0, 0) _ rfl (heap_set2 _ _ hgb2.out) rfl rfl rfl) rfl ?_
    rw [hr.out]
    exact ⟨_, rfl, ⟨_, _, rfl, OwnI_nil _ _, OwnI_nil _ _⟩, (hB2.out.setCell (p := ⟨w.heap.size, 0, none⟩) (Nat.le_refl _) _).setCell (p := ⟨w.heap.size, 1, none⟩) (Nat.le_refl _) _⟩
   ·have k1 : ((M : Int) + 1) ≤ 12 := by omega
    have k2 : ¬ ((M : Int) + 1) ≤ (l.length : Int) := by omega
    go_wp2
    refine bodyPost_ret (res_ct rfl _ _ w.heap.size 41 #[.slice none 0 0, .slice none 0 0] (0, 0) _ rfl (heap_set2 _ _ hgb2.out) rfl rfl rfl) rfl ?_
    rw [hr.out]
    exact ⟨_, rfl, ⟨_, _, rfl, OwnI_nil _ _, OwnI_nil _ _⟩, (hB2.out.setCell (p := ⟨w.heap.size, 0, none⟩) (Nat.le_refl _) _).setCell (p := ⟨w.heap.size, 1, none⟩) (Nat.le_refl _) _⟩
end Go.Proofs.YtlpldfocljnpnaaDoor
namespace Go.Proofs.YtlpldfocljnpnaaDoor
open Go.RowKit Go.Shelf
theorem Btw.cell {lo hi : Nat} {w w' : World} (h : Btw lo hi w w') {a : Addr} {x : Value} (hc : w.cell? a = some x) (hn : a.block < lo ∨ hi ≤ a.block) : w'.cell? a = some x :=
 (World.cell?_of_block (h.block a.block (World.block_lt_of_cell? w _ hc) hn)).trans hc
def Box2 (W : World) (g : Nat) (x y : Value) : Prop := W.cell? ⟨g, 0, none⟩ = some x ∧ W.cell? ⟨g, 1, none⟩ = some y
theorem Box2.below {W W' : World} {g : Nat} {x y : Value} (h : Box2 W g x y) (hb : Below W.heap.size W W') : Box2 W' g x y :=
 ⟨(hb.cell (World.block_lt_of_cell? W _ h.1)).trans h.1, (hb.cell (World.block_lt_of_cell? W _ h.2)).trans h.2⟩
def FreshR (lo hi : Nat) (w : World) (v : Value) (r : Rule) : Prop := ∃ a b, v = .agg #[a, b] ∧ FreshRow hi lo hi w r.by_.length a ∧ FreshRow hi lo hi w r.start.length b
theorem OwnR.fresh {w : World} {base : Nat} {v : Value} {r : Rule} (h : OwnR w base v r) (h1 : r.by_.length ≤ 1000) (h2 : r.start.length ≤ 1000) : FreshR base w.heap.size w v r := by
 obtain ⟨a, b, rfl, oa, ob⟩ := h
 exact ⟨a, b, rfl, own_fresh oa (by omega) (fun e => by have := (World.ownsRow.lt oa _ e).2; omega), own_fresh ob (by omega) (fun e => by have := (World.ownsRow.lt ob _ e).2; omega)⟩
theorem OwnR.rd {w : World} {base : Nat} {v : Value} {r : Rule} (h : OwnR w base v r) (h1 : r.by_.length ≤ 1000) (h2 : r.start.length ≤ 1000) : RdR w v r := by
 obtain ⟨a, b, rfl, oa, ob⟩ := h
 exact ⟨a, b, rfl, oa.rd (by omega), ob.rd (by omega)⟩
theorem OwnR.below {w w1 : World} {base : Nat} {v : Value} {r : Rule} (h : OwnR w base v r) (hb : Below w.heap.size w w1) : OwnR w1 base v r := by
 obtain ⟨a, b, rfl, oa, ob⟩ := h
 exact ⟨a, b, rfl, oa.below hb, ob.below hb⟩
theorem FreshR.kept {lo hi : Nat} {w w' : World} {v : Value} {r : Rule} (h : FreshR lo hi w v r) (hb : Below w.heap.size w w') : FreshR lo hi w' v r := by
 obtain ⟨a, b, rfl, oa, ob⟩ := h
 exact ⟨a, b, rfl, oa.kept hb, ob.kept hb⟩
theorem OwnR.shape {w : World} {base : Nat} {v : Value} {r : Rule} (h : OwnR w base v r) : ∃ A n c B m d, v = .agg #[.slice A n c, .slice B m d] := by
 obtain ⟨a, b, rfl, oa, ob⟩ := h
 unfold OwnI at oa ob
 obtain ⟨A, c, rfl⟩ := own_form oa
 obtain ⟨B, d, rfl⟩ := own_form ob
 exact ⟨_, _, _, _, _, _, rfl⟩
theorem RdR.shape {w : World} {v : Value} {r : Rule} (h : RdR w v r) : ∃ A n c B m d, v = .agg #[.slice A n c, .slice B m d] := by
 obtain ⟨a, b, rfl, oa, ob⟩ := h
 obtain ⟨A, c, rfl, -⟩ := oa.open_
 obtain ⟨B, d, rfl, -⟩ := ob.open_
 exact ⟨_, _, _, _, _, _, rfl⟩
end Go.Proofs.YtlpldfocljnpnaaDoor
namespace Go.Proofs.YtlpldfocljnpnaaDoor
theorem S_trunc {n k : Nat} {f : Nat → Fp} (hk : k ≤ n) (h : ∀ i, k ≤ i → i < n → f i = 0) : S n f = S k f := by
 obtain ⟨d, rfl⟩ := Nat.exists_eq_add_of_le hk
 rw [S_split, S_zero (n := d) (fun i hi => h _ (by omega) (by omega))]; grind
theorem S_turn (n : Nat) (f : Nat → Fp) : S n f = S n (fun i => f (n - 1 - i)) := by
 induction n with
 | zero => rfl
 | succ n ih =>
  rw [S, ih, S_first n (fun i => f (n + 1 - 1 - i)), S_congr (n := n) (f := fun i => f (n + 1 - 1 - (i + 1))) (g := fun i => f (n - 1 - i)) (fun i _ => by rw [show n + 1 - 1 - (i + 1) = n - 1 - i by omega])]
  simp only [Nat.add_sub_cancel, Nat.sub_zero]; grind
theorem greatest {x : Nat → Fp} : ∀ {n : Nat}, (∃ i, i < n ∧ x i ≠ 0) → ∃ k, k < n ∧ x k ≠ 0 ∧ ∀ i, k < i → i < n → x i = 0
 | 0, ⟨i, h, _⟩ => by omega
 | n + 1, ⟨i, h, hi⟩ => by
  by_cases hn : x n = 0
  ·obtain ⟨k, h1, h2, h3⟩ := greatest (n := n) (x := x) ⟨i, by rcases Nat.lt_succ_iff_lt_or_eq.1 h with h | h; exact h; rw [h] at hi; exact absurd hn hi, hi⟩
   exact ⟨k, by omega, h2, fun j h4 h5 => by by_cases e : j = n; rw [e]; exact hn; exact h3 j h4 (by omega)⟩
  ·exact ⟨n, by omega, hn, fun j h4 h5 => by omega⟩
theorem shift_rec {N : Nat} {e : Mx} (hsh : ∀ j, j < N → Sp N e (fun t => e j (t + 1))) {s : Nat → Fp} (hs : Sp N e s) : ∃ k, k ≤ N ∧ ∃ c : Nat → Fp, ∀ t, s (t + k) = S k (fun i => c i * s (t + i)) := by
 obtain ⟨x, hx0, hx⟩ := depend (N + 1) (List.range N) (fun i j => e j i) (by simp)
 obtain ⟨k, hk, hxk, hgt⟩ := greatest hx0
 have hm := mul_inv hxk
 have h0 : ∀ j, j < N → e j k = S k (fun i => - x i * inv (x k) * e j i) := fun j hj => by
  have h := hx j (List.mem_range.2 hj)
  rw [S_trunc (k := k + 1) (by omega) (fun i h1 h2 => by rw [hgt i (by omega) h2]; grind), S] at h
  rw [S_congr (g := fun i => - inv (x k) * (x i * e j i)) (fun i _ => by grind), S_mul]
  generalize S k (fun i => x i * e j i) = T at *
  grind
 have hrec : ∀ t, ∀ j, j < N → e j (t + k) = S k (fun i => - x i * inv (x k) * e j (t + i)) := fun t => by
  induction t with
  | zero => intro j hj; simp only [Nat.zero_add]; exact h0 j hj
  | succ t ih =>
   intro j hj
   obtain ⟨M, hM⟩ := hsh j hj
   replace hM : ∀ t, e j (t + 1) = S N (fun i => M i * e i t) := hM
   rw [show t + 1 + k = (t + k) + 1 by omega, hM (t + k), S_congr (g := fun q => S k (fun i => - x i * inv (x k) * (M q * e q (t + i)))) (fun q hq => by rw [ih q hq, ← S_mul]; exact S_congr fun i _ => by grind), S_swap]
   refine S_congr fun i _ => ?_
   rw [S_mul, show t + 1 + i = (t + i) + 1 by omega, hM (t + i)]
 obtain ⟨l, hl⟩ := hs
 refine ⟨k, by omega, fun i => - x i * inv (x k), fun t => ?_⟩
 rw [hl, S_congr (g := fun q => S k (fun i => - x i * inv (x k) * (l q * e q (t + i)))) (fun q hq => by rw [hrec t q hq, ← S_mul]; exact S_congr fun i _ => by grind), S_swap]
 refine S_congr fun i _ => ?_
 rw [S_mul, hl]
theorem fit_of_rec {L : List Int} (hb : ∀ x ∈ L, 0 ≤ x ∧ x < 65521) {s : Nat → Fp} (hL : ∀ j, j < L.length → toF (L.getD j 0) = s j) {k : Nat} (hk : k ≤ L.length) {c : Nat → Fp} (hrec : ∀ t, s (t + k) = S k (fun i => c i * s (t + i))) : (fitO L k).isSome = true := by
 have hs := solvedM_complete (rs := rowsL L k) (b := L.drop k) (n := L.length - k) (m := k) (okM_rowsL hb k) (fun x hx => hb x (List.mem_of_mem_drop hx)) (by rw [List.length_drop]) (y := fun j => c (k - 1 - j)) (fun i hi => by
  have e1 : toF ((L.drop k).getD i 0) = s (i + k) := by
   rw [List.getD_eq_getElem?_getD, List.getElem?_drop, ← List.getD_eq_getElem?_getD, hL _ (by omega), Nat.add_comm]
  rw [e1, hrec i, S_turn k (fun q => c q * s (i + q))]
  refine S_congr fun j hj => ?_
  have e2 : G (rowsL L k) i j = s (i + (k - 1 - j)) := by
   show toF (gM _ i j) = _
   rw [rowsL, gM_mat _ hi hj, hL _ (by omega), show k + i - 1 - j = i + (k - 1 - j) by omega]
  rw [e2]; grind)
 rw [fitO, hs]; rfl
variable {a b : Nat → Fp} {m n : Nat} {c d : Nat → Fp}
def fold (a b : Nat → Fp) (q t : Nat) : Fp := S (t + 1) (fun i => a i * b (t - i + q))
end Go.Proofs.YtlpldfocljnpnaaDoor
namespace Go.Proofs.YtlpldfocljnpnaaDoor
open Go.RowKit
theorem fitL_mem {l : List Int} {k : Nat} (h : (fitO l k).isSome = true) : ∀ os : List Nat, k ∈ os → (fitL l os).isSome = true
 | [], hk => by cases hk
 | o :: os, hk => by
  rw [fitL]
  cases e : fitO l o with
  | some b => rfl
  | none =>
   refine fitL_mem h os ?_
   rcases List.mem_cons.1 hk with rfl | hk
   ·rw [e] at h; cases h
   ·exact hk
theorem termsA_len (a : Aut) (n : Nat) : (termsA a n).length = 2 * n := by simp [termsA]
theorem termsA_bd (a : Aut) (n : Nat) : ∀ x ∈ termsA a n, 0 ≤ x ∧ x < 65521 := fun x hx => by
 obtain ⟨q, _, rfl⟩ := List.mem_map.1 hx; exact wtW_bd _ _
theorem terms_rec {a : Aut} {n : Nat} (ok : okA a 1 n) : ∃ k, k ≤ n ∧ ∃ c : Nat → Fp, ∀ t, toF (wtN a (t + k)) = S k (fun i => c i * toF (wtN a (t + i))) := by
 have hsh : ∀ j, j < n → Sp n (fun j t => rowF (rowW a (List.replicate t 0)) j) (fun t => (fun j t => rowF (rowW a (List.replicate t 0)) j) j (t + 1)) := fun j hj => ⟨fun i => F3 a 0 i j, fun t => by
  show rowF (rowW a (List.replicate (t + 1) 0)) j = _
  rw [rep_snoc, row_snoc ok _ (by omega) hj]
  exact S_congr fun i _ => by grind⟩
 exact shift_rec hsh (s := fun t => toF (wtN a t)) ⟨fun i => rowF a.end_ i, fun t => by
  show serA a _ = _
  rw [ser_eq ok]
  exact S_congr fun i _ => by grind⟩
theorem terms_fit {a : Aut} {n : Nat} (ok : okA a 1 n) (hn : n ≤ 12) : ∃ r, fitM (termsA a n) 12 = some r := by
 obtain ⟨k, hk, c, hrec⟩ := terms_rec ok
 have hl := termsA_len a n
 have hf := fit_of_rec (L := termsA a n) (termsA_bd a n) (s := fun t => toF (wtN a t)) (fun j hj => by rw [termsA, getD_map_range _ _ (by omega)]) (k := k) (by omega) hrec
 have := fitL_mem hf (List.range (min 12 (termsA a n).length + 1)) (List.mem_range.2 (by rw [hl]; omega))
 exact Option.isSome_iff_exists.1 this
theorem terms_least {a : Aut} {n : Nat} (ok : okA a 1 n) (hn : n ≤ 12) : leastR (termsA a n) = ((fitM (termsA a n) 12).getD ⟨[], []⟩, 0) := by
 obtain ⟨r, hr⟩ := terms_fit ok hn
 rw [leastR_some (by rw [termsA_len]; omega) (isRes_iff.2 (termsA_bd a n)) hr, hr]; rfl
theorem len_one {a : Aut} {n : Nat} (ok : okA a 1 n) (q : Nat) : wtN (lenA a n) q = wtN a q := by
 have okl := lenA_ok ok
 have hF : ∀ i j, i < n → j < n → F3 (lenA a n) 0 i j = F3 a 0 i j := fun i j hi hj => by
  unfold F3 G3
  have e : (lenA a n).steps.getD 0 [] = mat (sumE a) n n := rfl
  rw [e, gM_mat _ hi hj, sumE, ok.steps, toF_emod, toF_psum]
  simp only [S]
  unfold G3
  grind
 have hrow : ∀ q j, rowF (rowW (lenA a n) (List.replicate q 0)) j = rowF (rowW a (List.replicate q 0)) j := fun q => by
  induction q with
  | zero => intro j; rfl
  | succ q ih =>
   intro j
   by_cases hj : j < n
   ·rw [rep_snoc, row_snoc okl _ (by omega) hj, row_snoc ok _ (by omega) hj]
    exact S_congr fun i hi => by rw [ih, hF i j hi hj]
   ·rw [row_out okl _ (by omega), row_out ok _ (by omega)]
 refine toF_inj (wtW_bd _ _) (wtW_bd _ _) ?_
 show serA _ _ = serA _ _
 rw [ser_eq okl, ser_eq ok]
 exact S_congr fun i _ => by rw [hrow]; rfl
theorem len_terms {a : Aut} {n : Nat} (ok : okA a 1 n) : termsA (lenA a n) n = termsA a n := by
 unfold termsA
 exact List.map_congr_left fun q _ => len_one ok q
theorem rule_lengths {a : Aut} (h : checkA a = 0) (h1 : a.letters = 1) : ruleP a = lengthsP a := by
 obtain ⟨k, ok, h12, hk⟩ := checkA_ex h
 obtain rfl : k = 1 := by omega
 rw [ruleP, lengthsP, if_pos h1, len_terms ok]
theorem lengths_ref {a : Aut} (h : checkA a = 0) : lengthsP a = ((fitM (termsA (lenA a a.start.length) a.start.length) 12).getD ⟨[], []⟩, 0) := by
 obtain ⟨k, ok, h12, -⟩ := checkA_ex h
 rw [lengthsP, guardR, if_pos h, terms_least (lenA_ok ok) h12]
end Go.Proofs.YtlpldfocljnpnaaDoor
namespace Go.Proofs.YtlpldfocljnpnaaDoor
open Go.RowKit Go.Shelf
def lenS (a : Aut) (q i j x y : Nat) : Int := psum (fun z => G3 a z x y) (if x < i ∨ (x = i ∧ y < j) then q + 1 else q) % 65521
theorem lenS_bd (a : Aut) (q i j x y : Nat) : 0 ≤ lenS a q i j x y ∧ lenS a q i j x y < 65521 := ⟨Int.emod_nonneg _ (by decide), Int.emod_lt_of_pos _ (by decide)⟩
theorem lenS_zero (a : Aut) (n : Nat) : mat (lenS a 0 0 0) n n = mat (fun _ _ => 0) n n := mat_congr fun i k _ _ => by
 unfold lenS
 rw [if_neg (by omega)]; rfl
theorem lenS_row (a : Aut) (q i n : Nat) : mat (lenS a q i n) n n = mat (lenS a q (i + 1) 0) n n := mat_congr fun x y _ hy => by
 unfold lenS
 by_cases h : x < i ∨ (x = i ∧ y < n)
 ·rw [if_pos h, if_pos (by omega)]
 ·rw [if_neg h, if_neg (by omega)]
theorem lenS_mat (a : Aut) (q n : Nat) : mat (lenS a q n 0) n n = mat (lenS a (q + 1) 0 0) n n := mat_congr fun x y hx _ => by
 unfold lenS
 rw [if_pos (.inl hx), if_neg (by omega)]
theorem lenS_end {a : Aut} {k n : Nat} (ok : okA a k n) : mat (lenS a k 0 0) n n = mat (sumE a) n n := mat_congr fun x y _ _ => by
 unfold lenS sumE
 rw [if_neg (by omega), ok.steps]
theorem lenS_at (a : Aut) (q i j : Nat) : (lenS a q i j i j + G3 a q i j) % 65521 = lenS a q i (j + 1) i j := by
 unfold lenS
 rw [if_neg (by omega), if_pos (by omega), psum, Int.emod_add_emod]
theorem lenS_put (a : Aut) (q i j : Nat) (x y : Nat) : (if x = i ∧ y = j then (lenS a q i j i j + G3 a q i j) % 65521 else lenS a q i j x y) = lenS a q i (j + 1) x y := by
 by_cases h : x = i ∧ y = j
 ·obtain ⟨rfl, rfl⟩ := h
  rw [if_pos ⟨rfl, rfl⟩, lenS_at]
 ·rw [if_neg h]
  unfold lenS
  by_cases h2 : x < i ∨ (x = i ∧ y < j)
  ·rw [if_pos h2, if_pos (by omega)]
  ·rw [if_neg h2, if_neg (by omega)]
theorem Lengths17_any (a : Aut) (s e t : Value) (w : World) (ra : RdA w s e t a) :
  Calls Tryd.prog 19 #[.agg #[.int .i64 a.letters, s, e, t]] w (RuleOut (lengthsP a) w) := by
 obtain ⟨As, cs, rfl, -, -⟩ := ra.start.cell_
 obtain ⟨Ae, ce, rfl, -, -⟩ := ra.end_.cell_
 obtain ⟨At, ct, rfl, tl, tc, t3⟩ := RdS.open_ ([] : List (List Int)) ra.steps
 have hck := Lib.hid (fun W (hW : Below w.heap.size w W) => Check17_any a _ _ _ W (ra.below hW (Nat.le_refl _)))
 by_cases h0 : checkA a = 0
 ·obtain ⟨k, ok, h12, hk0⟩ := checkA_ex h0
  have hr := Lib.hid (lengths_ref h0)
  obtain ⟨n, hn⟩ : ∃ n, a.start.length = n := ⟨_, rfl⟩
  rw [h0] at hck
  rw [hn] at ok h12 hr
  have okl := lenA_ok ok
  have hnl := fun {x : Nat} (hx : x < k) => ok.row_ok hx
  rw [ok.steps] at t3 tl tc
  have hfit := Lib.hid (fun v W (h : RdI W v (termsA (lenA a n) n)) => refFit_any (termsA (lenA a n) n) v W (by rw [termsA_len]; omega) (termsA_bd _ _) h)
  have hno := Lib.hid (fun W => nothing17_any n n W (by omega) (by omega))
  have cD := Lib.hid (fun q vr W (hW : Below w.heap.size w W) (hr : RdI W vr (rowW (lenA a n) (List.replicate q 0))) => (dot17_any (rowW (lenA a n) (List.replicate q 0)) a.end_ vr (.slice Ae a.end_.length ce) W hr (ra.end_.below hW (Nat.le_refl _)) (by rw [rowW_len okl, ok.end_.1]; exact Nat.le_refl _) (by rw [rowW_len okl]; omega) (rowW_bd okl _) ok.end_.2).mono (R' := fun e w' => e = .returned (.int .i64 (wtN (lenA a n) q)) ∧ Below W.heap.size W w') (fun e w' ⟨h1, h2⟩ => ⟨by rw [h1, dotR_eq]; rfl, h2⟩))
  have cF := Lib.hid (fun q vr va W (hr : RdI W vr (rowW (lenA a n) (List.replicate q 0))) (ha : RdM W va (mat (sumE a) n n)) => (along17_any n (rowW (lenA a n) (List.replicate q 0)) (mat (sumE a) n n) vr va W (by omega) hr ha (by simp [mat]) (by rw [rowW_len okl]; exact Nat.le_refl _) (fun r hr => (okl.row_ok (x := 0) (by omega)).2 r hr) (rowW_bd okl _)).mono (R' := fun e w' => (∃ v, e = .returned v ∧ OwnI w' W.heap.size v (rowW (lenA a n) (List.replicate (q + 1) 0))) ∧ Below W.heap.size W w') (fun e w' ⟨⟨v, h1, h2⟩, h3⟩ => ⟨⟨v, h1, by
   rw [rep_snoc, rowW_snoc]
   have e : (lenA a n).start.length = n := okl.start.1
   rw [e]; exact h2⟩, h3⟩))
  have hrl := Lib.hid (fun q => rowW_len okl (List.replicate q 0))
  have hr0 := Lib.hid (show RdI w (.slice As a.start.length cs) (rowW (lenA a n) (List.replicate 0 0)) from ra.start)
  have hte : Hid (termsA (lenA a n) n = (List.range (2 * n)).map (wtN (lenA a n))) := Lib.hid rfl
  have hse := Lib.hid (lenS_end ok)
  have hg3 := Lib.hid (fun z x y => ok.G3_bd z x y)
  have hml := Lib.hid (fun q (hq : q < k) => (hnl hq).1)
  have hmr := Lib.hid (fun q i (hq : q < k) (hi : i < n) => ((hnl hq).2 _ (getD_mem (a.steps.getD q []) [] (by rw [(hnl hq).1]; exact hi))).1)
  have hel := ok.end_.1
  have hsl := ok.steps
  rw [hk0] at hck ⊢
  rw [hn] at hck hr0 ⊢
  rw [hel] at hck cD ⊢
  rw [hsl] at hck ⊢
  clear ra ok okl h0 hnl hk0 hel hsl hn
  generalize lengthsP a = R at *
  obtain ⟨x0, x1, hz, hB⟩ := two0 w (.cells #[.int .i64 (k : Nat), .slice As n cs, .slice Ae n ce, .slice At k ct] 25) (.cells #[.slice none 0 0, .slice none 0 0] 41)
  obtain ⟨N, hN⟩ : ∃ N, 2 * n = N := ⟨_, rfl⟩
  have w1 : IntKind.i64.wrap (2 * (n : Int)) = (N : Int) := by rw [IntKind.wrap_i64]; omega
  have w2 : (2 : Int) * (n : Int) = (N : Int) := by omega
  have hN8 : N ≤ 800 := by omega
  rw [hN] at hte
  obtain ⟨iI, hiI, jI0, jI1, jI2⟩ := info_parts infoI
  replace hN := Lib.hid hN
  replace t3 := Lib.hid t3
  go_enter Tryd.func19, Tryd.ntmps19
  go_wp2_with fail
  generalize ((w.alloc (.cells #[.int .i64 (k : Nat), .slice As n cs, .slice Ae n ce, .slice At k ct] 25)).alloc (.cells #[.slice none 0 0, .slice none 0 0] 41)) = X at *
  refine (hck.out X hB).mono ?_; rintro ev W1 ⟨rfl, hb⟩
  have cX := Lib.hid (fun W (hW : Below W1.heap.size W1 W) => (⟨(hW.block _ (by have := hb.size; omega)).trans ((hb.block w.heap.size (by omega)).trans x0), (hW.block _ (by have := hb.size; omega)).trans ((hb.block (w.heap.size + 1) (by omega)).trans x1)⟩ : _ ∧ _))
  have hB1 := Lib.hid (Below.then_ hB hb)
  clear hb hB x0 x1 hck
  obtain ⟨z0, z1⟩ := cX.out W1 (Below.refl _ _)
  obtain ⟨q0, q1, q2, q3⟩ := cells4 z0
  go_wp2_with fail
  refine (hno.out W1).mono ?_; rintro ev W2 ⟨⟨v6, rfl, ho⟩, hb⟩
  obtain ⟨vs, hv⟩ := ho.v
  have hvl : Hid (vs.length = n) := Lib.hid (by have := hv.len; rwa [mat_len] at this)
  have hge := Lib.hid hv.ge
  obtain ⟨Aa, ca, rfl⟩ := ho.form
  rw [mat_len] at hv ⊢
  replace hv := Lib.hid hv
  have hB2 := Lib.hid (Below.then_ hB1.out hb)
  have toB : Hid (∀ wr, KeptBut vs W2 wr → Below W1.heap.size W1 wr) := Lib.hid (fun wr hK => hb.trans (hK.below hb.size (fun u hu q hq => (hge.out u hu q hq).1)))
  clear q0 q1 q2 q3 z0 z1 ho hno
  obtain ⟨z0, z1⟩ := cX.out W2 hb
  obtain ⟨q0, q1, q2, q3⟩ := cells4 z0
  clear z1 hb
  go_wp2_with fail
  clear q0 q1 q2 q3 z0
  go_loopw [8, 9, 10, 31] (fun _ _ _ i wr => ∃ q : Nat, q ≤ k ∧ i = .int .i64 q ∧ Hid (KeptBut vs W2 wr) ∧ Hid (OwnMv wr W1.heap.size (.slice Aa n ca) (mat (lenS a q 0 0) n n) vs)) (fun _ _ _ i _ => k - (intOf i).toNat)
  case atStart => exact ⟨0, Nat.zero_le _, rfl, Lib.hid (KeptBut.refl _ _), Lib.hid (by rw [lenS_zero]; exact hv.out)⟩
  case round =>
   obtain ⟨q, hq, rfl, hK, hM⟩ := hrel
   by_cases hlt : q < k
   ·obtain ⟨bq, oq, u0, rfl, hc, hu⟩ := t3.out q hlt
    have hBw := Below.then_ hB1.out (toB.out wr hK.out)
    replace hc := (hBw.cell (p := ⟨bq, oq + q, none⟩) (World.block_lt_of_cell? w _ hc)).trans hc
    obtain ⟨Am, cm, rfl, -, -, m3⟩ := hu.open_
    rw [hml.out q hlt] at m3 hc
    replace m3 := Lib.hid m3
    have y1 : (q : Int) < (k : Int) := by omega
    have y0 : (0 : Int) ≤ (q : Int) := by omega
    clear hu hBw
    go_wp2
    clear hc
    obtain ⟨wo, rfl⟩ : ∃ wo : World, wo = wr := ⟨_, rfl⟩
    go_loopw [9, 10] (fun i _ wr => ∃ p : Nat, p ≤ n ∧ i = .int .i64 p ∧ Hid (KeptBut vs W2 wr) ∧ Hid (OwnMv wr W1.heap.size (.slice Aa n ca) (mat (lenS a q p 0) n n) vs)) (fun i _ _ => n - (intOf i).toNat)
    case atStart => exact ⟨0, Nat.zero_le _, rfl, hK, hM⟩
    case round =>
     obtain ⟨p, hp, rfl, hK, hM⟩ := hrel
     by_cases hlp : p < n
     ·obtain ⟨br, or_, u1, rfl, hc2, hu⟩ := m3.out p hlp
      obtain ⟨Ar, cr, rfl, -, -, e3⟩ := hu.open_
      rw [hmr.out q p hlt hlp] at e3 hc2
      replace e3 := Lib.hid e3
      have x1 : (p : Int) < (n : Int) := by omega
      have x0 : (0 : Int) ≤ (p : Int) := by omega
      clear hu
      obtain ⟨wo2, rfl⟩ : ∃ wo2 : World, wo2 = wr := ⟨_, rfl⟩
      go_wp2
      go_loopw [10] (fun j wr => ∃ j' : Nat, j' ≤ n ∧ j = .int .i64 j' ∧ Hid (KeptBut vs W2 wr) ∧ Hid (OwnMv wr W1.heap.size (.slice Aa n ca) (mat (lenS a q p j') n n) vs)) (fun j _ => n - (intOf j).toNat)
      case atStart => exact ⟨0, Nat.zero_le _, rfl, hK, hM⟩
      case round =>
       obtain ⟨j, hj, rfl, hK, hM⟩ := hrel
       by_cases hlj : j < n
       ·have hBw := Below.then_ hB1.out (toB.out wr hK.out)
        obtain ⟨b3, o3, rfl, hc3⟩ := e3.out j hlj
        change _ = some (Value.int .i64 (G3 a q p j)) at hc3
        replace hc3 := (hBw.cell (p := ⟨b3, o3 + j, none⟩) (World.block_lt_of_cell? w _ hc3)).trans hc3
        have hc4 := (hBw.cell (p := ⟨br, or_ + p, none⟩) (World.block_lt_of_cell? w _ hc2)).trans hc2
        have hr' := mat_get? (lenS a q p j) (n := n) (m := n) hlp
        have hiv : p < vs.length := by have := hvl.out; omega
        have hu : vs[p]? = some vs[p] := List.getElem?_eq_getElem hiv
        obtain ⟨g, c', e1, _, _, hc, hf⟩ := hM.out.at_ hr' hu
        rw [mat_len] at e1
        cases e1
        obtain ⟨g1, c1', e1, _, _, hc1, hf1⟩ := hM.out.num hr' hu (k := j) (by simp; exact hlj)
        have hlr : ((List.range n).map (lenS a q p j p)).length = n := by simp
        rw [hlr] at e1
        rw [e1] at hc hu
        rw [getD_map_range _ _ hlj] at hc1
        have hput := (hM.out.kept ((Below.refl wr.heap.size wr).drew)).put hr' hu (k := j) ((lenS a q p j p j + G3 a q p j) % 65521)
        rw [mat_put (lenS a q p j) (lenS a q p (j + 1)) _ (fun x y _ _ => lenS_put a q p j x y)] at hput
        have hput2 := Lib.hid hput.1
        have hK2 := Lib.hid (hK.out.drew.trans hput.2)
        have ⟨s1, s2⟩ := lenS_bd a q p j p j
        have ⟨n1, n2⟩ := hg3.out q p j
        clear hput hr' hu hM e1 hlr hiv hBw
        generalize lenS a q p j p j = S at *
        generalize G3 a q p j = x at *
        have j1 : (j : Int) < (n : Int) := by omega
        have j0 : (0 : Int) ≤ (j : Int) := by omega
        replace hc2 := Lib.hid hc2
        go_wp2
        go_still_tail 22, (by kernel_rfl)
        change wpList _ _ _ _ _ wr.drew
        replace hc1 : wr.drew.cell? _ = _ := hc1
        replace hf1 : wr.drew.frozen? _ = _ := hf1
        clear hc hc3 hc4 hf hK
        generalize wr.drew = wd at hc1 hf1 hput2 hK2 ⊢
        go_wp2
        go_roundw
        case rel => exact ⟨j + 1, by omega, by go_num, hK2, hput2⟩
        case measure => simp [intOf]; omega
       ·obtain rfl : j = n := by omega
        go_wp2
        go_roundw
        case rel => exact ⟨p + 1, by omega, by go_num, hK, by rw [← lenS_row]; exact hM⟩
        case measure => simp [intOf]; omega
     ·obtain rfl : p = n := by omega
      go_wp2
      go_roundw
      case rel => exact ⟨q + 1, by omega, by go_num, hK, by rw [← lenS_mat]; exact hM⟩
      case measure => simp [intOf]; omega
   ·obtain rfl : q = k := by omega
    have hM2 := hM.out
    rw [hse.out] at hM2
    have hall := Lib.hid (fun W (hW : Below wr.heap.size wr W) => (hM2.m.below hW).rd (by simp [mat]; omega) (fun r hr => by
     obtain ⟨i, _, rfl⟩ := List.mem_map.1 hr
     simp; omega))
    have hBw := toB.out wr hK.out
    have cY := Lib.hid (fun W (hW : Below wr.heap.size wr W) => cX.out W (Below.then_ hBw hW))
    have hwb := Lib.hid (fun W (hW : Below wr.heap.size wr W) => Below.then_ (Below.then_ hB1.out hBw) hW)
    obtain ⟨z0, z1⟩ := cX.out wr hBw
    obtain ⟨q0, q1, q2, q3⟩ := cells4 z0
    replace hr0 := Lib.hid (hr0.out.below (hwb.out wr (Below.refl _ _)) (Nat.le_refl _))
    have ho0 : Hid (OwnI wr wr.heap.size (.slice none 0 0) ((List.range 0).map (wtN (lenA a n)))) := Lib.hid (OwnI_nil _ _)
    clear z0 z1 hM hM2 hK hv hvl hge cX hB1 hB2 hBw
    obtain ⟨wo, rfl⟩ : ∃ wo : World, wo = wr := ⟨_, rfl⟩
    go_wp2
    clear q0 q1 q2 q3
    go_loopw [11, 12, 13] (fun v r i wr => ∃ q : Nat, q ≤ N ∧ i = .int .i64 q ∧ Hid (Below wo.heap.size wo wr) ∧ Hid (OwnI wr wo.heap.size v ((List.range q).map (wtN (lenA a n)))) ∧ Hid (RdIo (fun g => v.ownBlock ≠ some g) wr r (rowW (lenA a n) (List.replicate q 0)))) (fun _ _ i _ => N - (intOf i).toNat)
    case atStart => exact ⟨0, Nat.zero_le _, rfl, Lib.hid (Below.refl _ _), ho0, Lib.hid (RdIo.of hr0.out (Below.refl _ _) (fun _ _ => by simp [Value.ownBlock]))⟩
    case round =>
     obtain ⟨q, hq, rfl, hL, hO, hR⟩ := hrel
     obtain ⟨A4, c4, e4⟩ := own_form hO.out
     rw [List.length_map, List.length_range] at e4
     subst e4
     have hsz := hL.out.size
     obtain ⟨z0, z1⟩ := cY.out wr hL.out
     obtain ⟨q0, q1, q2, q3⟩ := cells4 z0
     clear z0 z1
     by_cases hlt : q < N
     ·obtain ⟨A5, c5, e5, -, -⟩ := hR.out.rd.cell_
      rw [hrl.out] at e5
      subst e5
      have y1 : (q : Int) < (N : Int) := by omega
      have hown := Lib.hid (show wr.ownsRow wo.heap.size 3 1 (.slice A4 q c4) q (ints ((List.range q).map (wtN (lenA a n)))) from by have := hO.out; unfold OwnI at this; rwa [List.length_map, List.length_range] at this)
      go_wp2_with fail
      refine (cD.out q _ wr (hwb.out wr hL.out) hR.out.rd).mono ?_; rintro ev W5 ⟨rfl, hb5⟩
      replace hL := Lib.hid (Below.then_ hL.out hb5)
      replace hown := Lib.hid (own_below hown.out hb5)
      replace hR := Lib.hid (hR.out.keep (O' := fun g => (Value.slice A4 q c4).ownBlock ≠ some g) (Frame.of_below (F := fun _ => False) hb5) (fun g _ h => ⟨fun h => h, h⟩))
      have hsz2 := hb5.size
      generalize hwt : wtN (lenA a n) q = v at *
      have hL3 := Lib.hid (hL.out.alloc (by omega) (.cells #[.int .i64 v] 3))
      have hR3 := Lib.hid (hR.out.keep (O' := fun g => (Value.slice A4 q c4).ownBlock ≠ some g ∧ g < W5.heap.size) (Frame.of_below (F := fun _ => False) ((Below.refl W5.heap.size W5).alloc (Nat.le_refl _) (.cells #[.int .i64 v] 3))) (fun g hg h => ⟨fun h => h, h, hg⟩))
      replace hwt := Lib.hid hwt
      clear hb5 q0 q1 q2 q3
      go_wp2_with (at_builtin; (refine wpList_app1 rfl _ _ 22 rfl 3 iI _ 1 8 Tryd.underlying22 hiI jI0 jI1 jI2 rfl (by omega) (by omega) wo.heap.size (.slice A4 q c4) q (ints ((List.range q).map (wtN (lenA a n)))) rfl (own_below hown.out ((Below.refl W5.heap.size W5).alloc (Nat.le_refl _) _)) ⟨W5.heap.size, 0, none⟩ [.int .i64 v] rfl rfl (news_new W5 [.int .i64 v] _) (by simp [Value.oneCell']) (by omega) (by simp; omega) ?_); intro A6 c6 W3 hown3 hgrow3 hat3; have hL4 := Lib.hid (hL3.out.grown hgrow3 (by simp; omega) (fun g hg => (hown.out.lt g hg).1)))
      have hO4 : Hid (OwnI W3 wo.heap.size (.slice A6 (q + 1) c6) ((List.range (q + 1)).map (wtN (lenA a n)))) := Lib.hid (by
       have := own_snoc1 (xs := (List.range q).map (wtN (lenA a n))) (x := v) (by simp) hown3
       rw [← hwt.out, terms_snoc] at this
       exact this)
      have hR4 : Hid (RdI W3 (.slice A5 n c5) (rowW (lenA a n) (List.replicate q 0))) := Lib.hid ((hR3.out.keep (O' := fun _ => True) (Frame.grown (F := fun g => (Value.slice A4 q c4).ownBlock = some g) hgrow3 (fun g e => e)) (fun g hg h => ⟨h.1, trivial⟩)).rd)
      have hlt6 := Lib.hid (fun g (hg : (Value.slice A6 (q + 1) c6).ownBlock = some g) => (hO4.out.lt g hg).2)
      clear hown3 hgrow3 hat3 hL3 hR3
      refine (cF.out q _ _ W3 hR4.out (hall.out W3 hL4.out)).mono ?_; rintro ev W4 ⟨⟨v4, rfl, o4⟩, hb4⟩
      have hL5 := Lib.hid (Below.then_ hL4.out hb4)
      have hO5 := Lib.hid (hO4.out.below hb4)
      have hR5 : Hid (RdIo (fun g => (Value.slice A6 (q + 1) c6).ownBlock ≠ some g) W4 v4 (rowW (lenA a n) (List.replicate (q + 1) 0))) := Lib.hid (by
       exact OwnI.o (O := fun g => (Value.slice A6 (q + 1) c6).ownBlock ≠ some g) o4 (by rw [hrl.out]; omega) (fun g _ hb _ e => by have := hlt6.out g e; omega))
      clear hb4 o4
      go_wp2
      go_roundw
      case rel => exact ⟨q + 1, by omega, by go_num, hL5, hO5, hR5⟩
      case measure => simp [intOf]; omega
     ·obtain rfl : q = N := by omega
      have hrd := Lib.hid (hfit.out _ wr (by rw [hte.out]; exact hO.out.rd (by simp; omega)))
      unfold FitRes at hrd
      generalize (fitM (termsA (lenA a n) n) 12).isSome = fb at hrd
      clear q0 q1 q2 q3
      go_wp2_with fail
      refine hrd.out.mono ?_; rintro ev W5 ⟨v, rfl, ⟨a1, b1, rfl, oa, ob⟩, hb2⟩
      obtain ⟨A7, c7, rfl⟩ := own_form oa
      obtain ⟨A8, c8, rfl⟩ := own_form ob
      generalize (fitM (termsA (lenA a n) n) 12).getD ⟨[], []⟩ = rr at *
      have hal : Below W5.heap.size W5 (W5.alloc (.cells #[.slice A7 rr.by_.length c7, .slice A8 rr.start.length c8] 41)) := (Below.refl _ _).alloc (Nat.le_refl _) _
      have hBf := Below.then_ (Below.then_ hL.out hb2) hal
      obtain ⟨z0, z1⟩ := cY.out _ hBf
      obtain ⟨p0, p1, p2, p3⟩ := ret_cell z1
      obtain ⟨d0, d1, -, -⟩ := ret_cell (heap_alloc_new W5 (.cells #[.slice A7 rr.by_.length c7, .slice A8 rr.start.length c8] 41))
      have hB2 := Lib.hid (hwb.out _ hBf)
      replace z1 := Lib.hid z1
      replace oa := Lib.hid (oa.below hal)
      replace ob := Lib.hid (ob.below hal)
      have hlx := (hwb.out _ hL.out).size
      have hlx2 := lt_of_block (cY.out _ hL.out).2
      clear hb2 z0 hal hBf hrd
      go_wp2
      refine bodyPost_ret (res_ct rfl _ _ (w.heap.size + 1) 41 #[.slice A7 rr.by_.length c7, .slice A8 rr.start.length c8] (0, 0) _ rfl (heap_set2 _ _ z1.out) rfl rfl rfl) rfl ?_
      rw [hr.out]
      exact ⟨_, rfl, ⟨_, _, rfl, own_two oa.out (by omega) (by omega) _ _, own_two ob.out (by omega) (by omega) _ _⟩, (hB2.out.setCell (p := ⟨w.heap.size + 1, 0, none⟩) (by simp) _).setCell (p := ⟨w.heap.size + 1, 1, none⟩) (by simp) _⟩
 ·have hr : Hid (lengthsP a = (rule0, checkA a)) := Lib.hid (if_neg h0)
  have hne : (checkA a != 0) = true := by rw [bne_iff_ne]; exact h0
  clear ra h0 t3 tl tc
  generalize lengthsP a = R at *
  generalize checkA a = er at *
  generalize a.letters = L at *
  generalize a.start.length = n at *
  generalize a.end_.length = m at *
  generalize a.steps.length = k at *
  obtain ⟨x0, x1, hz, hB⟩ := two0 w (.cells #[.int .i64 L, .slice As n cs, .slice Ae m ce, .slice At k ct] 25) (.cells #[.slice none 0 0, .slice none 0 0] 41)
  go_enter Tryd.func19, Tryd.ntmps19
  go_wp2_with fail
  generalize ((w.alloc (.cells #[.int .i64 L, .slice As n cs, .slice Ae m ce, .slice At k ct] 25)).alloc (.cells #[.slice none 0 0, .slice none 0 0] 41)) = X at *
  refine (hck.out X hB).mono ?_; rintro e W1 ⟨rfl, hb⟩
  have hB1 := Lib.hid (Below.then_ hB hb)
  replace x1 := (hb.block (w.heap.size + 1) (by omega)).trans x1
  obtain ⟨p0, p1, p2, p3⟩ := ret_cell x1
  replace x1 := Lib.hid x1
  clear hb hB x0
  go_wp2
  refine bodyPost_ret (res_ct rfl _ _ (w.heap.size + 1) 41 #[.slice none 0 0, .slice none 0 0] (0, 0) _ rfl (heap_set2 _ _ x1.out) rfl rfl rfl) rfl ?_
  rw [hr.out]
  exact ⟨_, rfl, ⟨_, _, rfl, OwnI_nil _ _, OwnI_nil _ _⟩, (hB1.out.setCell (p := ⟨w.heap.size + 1, 0, none⟩) (by simp) _).setCell (p := ⟨w.heap.size + 1, 1, none⟩) (by simp) _⟩
theorem Rule17_any (a : Aut) (s e t : Value) (w : World) (ra : RdA w s e t a) :
  Calls Tryd.prog 20 #[.agg #[.int .i64 a.letters, s, e, t]] w (RuleOut (ruleP a) w) := by
 obtain ⟨As, cs, rfl, -, -⟩ := ra.start.cell_
 obtain ⟨Ae, ce, rfl, -, -⟩ := ra.end_.cell_
 obtain ⟨At, ct, rfl, -, -⟩ := RdS.open_ ([] : List (List Int)) ra.steps
 have hck := Lib.hid (fun W (hW : Below w.heap.size w W) => Check17_any a _ _ _ W (ra.below hW (Nat.le_refl _)))
 by_cases h0 : checkA a = 0
 ·obtain ⟨k0, ok, h12, hk0⟩ := checkA_ex h0
  have hrr : ruleP a = if a.letters = 1 then leastR (termsA a a.start.length) else (rule0, 3) := if_pos h0
  rw [h0] at hck
  by_cases hl : a.letters = 1
  ·obtain rfl : k0 = 1 := by omega
   have hru := Lib.hid (fun W (hW : Below w.heap.size w W) => Lengths17_any a _ _ _ W (ra.below hW (Nat.le_refl _)))
   have hr : Hid (ruleP a = lengthsP a) := Lib.hid (rule_lengths h0 hl)
   rw [hl] at hck hru ⊢
   clear ra ok h0 hrr
   generalize ruleP a = R at *
   generalize lengthsP a = p at *
   generalize a.start.length = n at *
   generalize a.end_.length = m at *
   generalize a.steps.length = k at *
   clear hk0 h12 hl
   obtain ⟨x0, x1, hz, hB⟩ := two0 w (.cells #[.int .i64 1, .slice As n cs, .slice Ae m ce, .slice At k ct] 25) (.cells #[.slice none 0 0, .slice none 0 0] 41)
   go_enter Tryd.func20, Tryd.ntmps20
   go_wp2_with fail
   generalize ((w.alloc (.cells #[.int .i64 1, .slice As n cs, .slice Ae m ce, .slice At k ct] 25)).alloc (.cells #[.slice none 0 0, .slice none 0 0] 41)) = X at *
   refine (hck.out X hB).mono ?_; rintro e W1 ⟨rfl, hb⟩
   have hB1 := Lib.hid (Below.then_ hB hb)
   replace x0 := (hb.block w.heap.size (by omega)).trans x0
   replace x1 := (hb.block (w.heap.size + 1) (by omega)).trans x1
   obtain ⟨q0, q1, q2, q3⟩ := cells4 x0
   clear hb hB
   go_wp2_with fail
   refine (hru.out W1 hB1.out).mono ?_; rintro e W2 ⟨v, rfl, ⟨a1, b1, rfl, oa, ob⟩, hb2⟩
   obtain ⟨A7, c7, rfl⟩ := own_form oa
   obtain ⟨A8, c8, rfl⟩ := own_form ob
   have hl1 := lt_of_block x1
   have hg := (hb2.block _ (lt_of_block x1)).trans x1
   obtain ⟨p0, p1, p2, p3⟩ := ret_cell hg
   have hB2 := Lib.hid (Below.then_ hB1.out hb2)
   replace hg := Lib.hid hg
   replace oa := Lib.hid oa
   replace ob := Lib.hid ob
   clear hb2
   obtain ⟨rr, er⟩ := p
   simp only [] at oa ob ⊢
   go_wp2
   refine bodyPost_ret (res_ct rfl _ _ (w.heap.size + 1) 41 #[.slice A7 rr.by_.length c7, .slice A8 rr.start.length c8] (0, 0) _ rfl (heap_set2 _ _ hg.out) rfl rfl rfl) rfl ?_
   rw [hr.out]
   exact ⟨_, rfl, ⟨_, _, rfl, own_two oa.out (by omega) (by omega) _ _, own_two ob.out (by omega) (by omega) _ _⟩, (hB2.out.setCell (p := ⟨w.heap.size + 1, 0, none⟩) (by simp) _).setCell (p := ⟨w.heap.size + 1, 1, none⟩) (by simp) _⟩
  ·have hr : Hid (ruleP a = (rule0, 3)) := Lib.hid (hrr.trans (if_neg hl))
   have hln : (a.letters != 1) = true := by rw [bne_iff_ne]; exact hl
   clear ra ok h0 hrr hk0
   generalize ruleP a = R at *
   generalize a.letters = L at *
   generalize a.start.length = n at *
   generalize a.end_.length = m at *
   generalize a.steps.length = k at *
   obtain ⟨x0, x1, hz, hB⟩ := two0 w (.cells #[.int .i64 L, .slice As n cs, .slice Ae m ce, .slice At k ct] 25) (.cells #[.slice none 0 0, .slice none 0 0] 41)
   go_enter Tryd.func20, Tryd.ntmps20
   go_wp2_with fail
   generalize ((w.alloc (.cells #[.int .i64 L, .slice As n cs, .slice Ae m ce, .slice At k ct] 25)).alloc (.cells #[.slice none 0 0, .slice none 0 0] 41)) = X at *
   refine (hck.out X hB).mono ?_; rintro e W1 ⟨rfl, hb⟩
   have hB1 := Lib.hid (Below.then_ hB hb)
   replace x0 := (hb.block w.heap.size (by omega)).trans x0
   replace x1 := (hb.block (w.heap.size + 1) (by omega)).trans x1
   obtain ⟨q0, q1, q2, q3⟩ := cells4 x0
   obtain ⟨p0, p1, p2, p3⟩ := ret_cell x1
   replace x1 := Lib.hid x1
   clear hb hB
   go_wp2
   refine bodyPost_ret (res_ct rfl _ _ (w.heap.size + 1) 41 #[.slice none 0 0, .slice none 0 0] (0, 0) _ rfl (heap_set2 _ _ x1.out) rfl rfl rfl) rfl ?_
   rw [hr.out]
   exact ⟨_, rfl, ⟨_, _, rfl, OwnI_nil _ _, OwnI_nil _ _⟩, (hB1.out.setCell (p := ⟨w.heap.size + 1, 0, none⟩) (by simp) _).setCell (p := ⟨w.heap.size + 1, 1, none⟩) (by simp) _⟩
 ·have hr : Hid (ruleP a = (rule0, checkA a)) := Lib.hid (if_neg h0)
  have hne : (checkA a != 0) = true := by rw [bne_iff_ne]; exact h0
  clear ra
  generalize ruleP a = R at *
  generalize checkA a = er at *
  generalize a.letters = L at *
  generalize a.start.length = n at *
  generalize a.end_.length = m at *
  generalize a.steps.length = k at *
  obtain ⟨x0, x1, hz, hB⟩ := two0 w (.cells #[.int .i64 L, .slice As n cs, .slice Ae m ce, .slice At k ct] 25) (.cells #[.slice none 0 0, .slice none 0 0] 41)
  go_enter Tryd.func20, Tryd.ntmps20
  go_wp2_with fail
  generalize ((w.alloc (.cells #[.int .i64 L, .slice As n cs, .slice Ae m ce, .slice At k ct] 25)).alloc (.cells #[.slice none 0 0, .slice none 0 0] 41)) = X at *
  refine (hck.out X hB).mono ?_; rintro e W1 ⟨rfl, hb⟩
  have hB1 := Lib.hid (Below.then_ hB hb)
  replace x1 := (hb.block (w.heap.size + 1) (by omega)).trans x1
  obtain ⟨p0, p1, p2, p3⟩ := ret_cell x1
  replace x1 := Lib.hid x1
  clear hb hB x0
  go_wp2
  refine bodyPost_ret (res_ct rfl _ _ (w.heap.size + 1) 41 #[.slice none 0 0, .slice none 0 0] (0, 0) _ rfl (heap_set2 _ _ x1.out) rfl rfl rfl) rfl ?_
  rw [hr.out]
  exact ⟨_, rfl, ⟨_, _, rfl, OwnI_nil _ _, OwnI_nil _ _⟩, (hB1.out.setCell (p := ⟨w.heap.size + 1, 0, none⟩) (by simp) _).setCell (p := ⟨w.heap.size + 1, 1, none⟩) (by simp) _⟩
end Go.Proofs.YtlpldfocljnpnaaDoor
