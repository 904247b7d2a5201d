/- The reference's Equal on automata The literals of layer 17's laws. awake of layer 17 The reference of layer 17 The reference of layer 17 The reference of layer 17 The reference of layer 17 -/
import Derived.Test.YtlpldfocljnpnaaDoorKam
import Derived.Test.YtlpldfocljnpnaaDoorKad
set_option maxRecDepth 100000
set_option maxHeartbeats 6400000
set_option linter.unusedSimpArgs false
namespace Go.Proofs.YtlpldfocljnpnaaDoor
open Go.RowKit Go.Shelf
def eqA (a b : Aut) : Bool := decide (a.letters = b.letters) && decide (a.start = b.start) && decide (a.end_ = b.end_) && decide (a.steps = b.steps)
theorem ext_getM {xs ys : List (List (List Int))} (hl : xs.length = ys.length) (h : ∀ j, j < xs.length → xs.getD j [] = ys.getD j []) : xs = ys := by
 apply List.ext_getElem hl
 intro j h1 h2
 have := h j h1
 rwa [List.getD_eq_getElem?_getD, List.getD_eq_getElem?_getD, List.getElem?_eq_getElem h1, List.getElem?_eq_getElem h2] at this
theorem ext_getL {xs ys : List (List Int)} (hl : xs.length = ys.length) (h : ∀ j, j < xs.length → xs.getD j [] = ys.getD j []) : xs = ys := by
 apply List.ext_getElem hl
 intro j h1 h2
 have := h j h1
 rwa [List.getD_eq_getElem?_getD, List.getD_eq_getElem?_getD, List.getElem?_eq_getElem h1, List.getElem?_eq_getElem h2] at this
theorem EqualA_any (a b : Aut) (s e t s' e' t' : Value) (w : World) (ra : RdA w s e t a) (rb : RdA w s' e' t' b) :
  Calls Tryd.prog 17 #[.agg #[.int .i64 a.letters, s, e, t], .agg #[.int .i64 b.letters, s', e', t']] w fun r w' => r = .returned (.bool (eqA a b)) ∧ Below w.heap.size w w' := by
 obtain ⟨R, hRR⟩ : ∃ R, eqA a b = R := ⟨_, rfl⟩
 rw [hRR]
 unfold eqA at hRR
 have hl1 := Lib.hid (fun W (hW : Below w.heap.size w W) => list17_any a.start b.start s s' W (ra.start.below hW (Nat.le_refl _)) (rb.start.below hW (Nat.le_refl _)))
 have hl2 := Lib.hid (fun W (hW : Below w.heap.size w W) => list17_any a.end_ b.end_ e e' W (ra.end_.below hW (Nat.le_refl _)) (rb.end_.below hW (Nat.le_refl _)))
 obtain ⟨At, ct, rfl, tl, tc, t3⟩ := RdS.open_ ([] : List (List Int)) ra.steps
 obtain ⟨Bt, dt, rfl, ul, uc, u3⟩ := RdS.open_ ([] : List (List Int)) rb.steps
 obtain ⟨LA, hLA⟩ : ∃ L, a.letters = L := ⟨_, rfl⟩
 obtain ⟨LB, hLB⟩ : ∃ L, b.letters = L := ⟨_, rfl⟩
 obtain ⟨SA, hSA⟩ : ∃ L, a.steps = L := ⟨_, rfl⟩
 obtain ⟨SB, hSB⟩ : ∃ L, b.steps = L := ⟨_, rfl⟩
 clear ra rb
 rw [hLA, hLB, hSA, hSB] at hRR ⊢
 rw [hSA] at t3 tl tc
 rw [hSB] at u3 ul uc
 clear hLA hLB hSA hSB
 generalize decide (a.start = b.start) = d1 at *
 generalize decide (a.end_ = b.end_) = d2 at *
 replace t3 := Lib.hid t3
 replace u3 := Lib.hid u3
 obtain ⟨na, hna⟩ : ∃ n, SA.length = n := ⟨_, rfl⟩
 obtain ⟨nb, hnb⟩ : ∃ n, SB.length = n := ⟨_, rfl⟩
 rw [hna] at t3 tl tc ⊢
 rw [hnb] at u3 ul uc ⊢
 obtain ⟨x0, x1, hz, hB⟩ := two0 w (.cells #[.int .i64 LA, s, e, .slice At na ct] 25) (.cells #[.int .i64 LB, s', e', .slice Bt nb dt] 25)
 by_cases hL : LA = LB
 ·subst hL
  cases d1 with
  | false =>
   have hr : Hid (R = false) := Lib.hid (by rw [← hRR]; simp)
   clear hRR hna hnb
   go_enter Tryd.func17, Tryd.ntmps17
   go_wp2_with fail
   generalize ((w.alloc (.cells #[.int .i64 LA, s, e, .slice At na ct] 25)).alloc (.cells #[.int .i64 LA, s', e', .slice Bt nb dt] 25)) = X at *
   obtain ⟨p0, p1, p2, p3⟩ := cells4 x0
   obtain ⟨q0, q1, q2, q3⟩ := cells4 x1
   go_wp2_with fail
   refine (hl1.out X hB).mono ?_; rintro ev W1 ⟨rfl, hb⟩
   go_wp2
   go_ret
   exact ⟨by rw [hr.out]; rfl, Below.then_ hB hb⟩
  | true =>
   have hr1 : Hid ((d2 && decide (SA = SB)) = R) := Lib.hid (by rw [← hRR]; simp)
   clear hRR
   replace hna := Lib.hid hna
   replace hnb := Lib.hid hnb
   go_enter Tryd.func17, Tryd.ntmps17
   go_wp2_with fail
   generalize ((w.alloc (.cells #[.int .i64 LA, s, e, .slice At na ct] 25)).alloc (.cells #[.int .i64 LA, s', e', .slice Bt nb dt] 25)) = X at *
   obtain ⟨p0, p1, p2, p3⟩ := cells4 x0
   obtain ⟨q0, q1, q2, q3⟩ := cells4 x1
   go_wp2_with fail
   refine (hl1.out X hB).mono ?_; rintro ev W1 ⟨rfl, hb⟩
   replace hB := Below.then_ hB hb
   replace x0 := heap_keep x0 hb
   replace x1 := heap_keep x1 hb
   clear p0 p1 p2 p3 q0 q1 q2 q3 hb hz
   obtain ⟨p0, p1, p2, p3⟩ := cells4 x0
   obtain ⟨q0, q1, q2, q3⟩ := cells4 x1
   go_wp2_with fail
   refine (hl2.out W1 hB).mono ?_; rintro ev W2 ⟨rfl, hb⟩
   replace hB := Below.then_ hB hb
   replace x0 := heap_keep x0 hb
   replace x1 := heap_keep x1 hb
   clear p0 p1 p2 p3 q0 q1 q2 q3 hb hl1 hl2
   cases d2 with
   | false =>
    have hr : Hid (R = false) := Lib.hid (by rw [← hr1.out]; rfl)
    clear hr1
    go_wp2
    go_ret
    exact ⟨by rw [hr.out]; rfl, hB⟩
   | true =>
    obtain ⟨p0, p1, p2, p3⟩ := cells4 x0
    obtain ⟨q0, q1, q2, q3⟩ := cells4 x1
    by_cases hN : na = nb
    ·subst hN
     have cV := Lib.hid (fun W (hW : Below W2.heap.size W2 W) => (⟨(hW.block _ (lt_of_block x0)).trans x0, (hW.block _ (lt_of_block x1)).trans x1⟩ : _ ∧ _))
     have hBw := Lib.hid hB
     replace x0 := Lib.hid x0
     replace x1 := Lib.hid x1
     clear hB
     go_wp2_with fail
     clear p0 p1 p2 p3 q0 q1 q2 q3
     go_loopw [5] (fun i wr => ∃ k : Nat, k ≤ na ∧ i = .int .i64 k ∧ Hid (Below W2.heap.size W2 wr) ∧ Hid (∀ j, j < k → SA.getD j [] = SB.getD j [])) (fun i _ => na - (intOf i).toNat)
     case atStart => exact ⟨0, Nat.zero_le _, rfl, Lib.hid (Below.refl _ _), Lib.hid (fun j hj => by omega)⟩
     case round =>
      obtain ⟨k, hk, rfl, hBr, hE⟩ := hrel
      obtain ⟨y0, y1⟩ := cV.out wr hBr.out
      obtain ⟨p0, p1, p2, p3⟩ := cells4 y0
      obtain ⟨q0, q1, q2, q3⟩ := cells4 y1
      replace y0 := Lib.hid y0
      replace y1 := Lib.hid y1
      by_cases hlt : k < na
      ·obtain ⟨b0, o0, v0, rfl, hc0, hu0⟩ := t3.out k hlt
       obtain ⟨b1, o1, v1, rfl, hc1, hu1⟩ := u3.out k hlt
       obtain ⟨A0, n0, rfl, -, mbd, m3⟩ := hu0.open_
       obtain ⟨A1, n1, rfl, -, -, l3⟩ := hu1.open_
       obtain ⟨ma, hma⟩ : ∃ m, (SA.getD k []).length = m := ⟨_, rfl⟩
       obtain ⟨mb, hmb⟩ : ∃ m, (SB.getD k []).length = m := ⟨_, rfl⟩
       rw [hma] at m3 hc0 mbd
       rw [hmb] at l3 hc1
       have hwr := Lib.hid (hBw.out.trans (hBr.out.mono hBw.out.size))
       have hz0 := World.block_lt_of_cell? w _ hc0
       have hz1 := World.block_lt_of_cell? w _ hc1
       have d0 := (hwr.out.cell (p := ⟨b0, o0 + k, none⟩) hz0).trans hc0
       have d1 := (hwr.out.cell (p := ⟨b1, o1 + k, none⟩) hz1).trans hc1
       have k1 : (k : Int) < (na : Int) := by omega
       have k0 : (0 : Int) ≤ (k : Int) := by omega
       have hBd := Lib.hid hBr.out.drew
       replace hma := Lib.hid hma
       replace hmb := Lib.hid hmb
       replace m3 := Lib.hid m3
       replace l3 := Lib.hid l3
       clear hu0 hu1
       by_cases hM : ma = mb
       ·subst hM
        replace hc0 := Lib.hid hc0
        replace hc1 := Lib.hid hc1
        go_wp2
        go_still_tail 12, (by kernel_rfl)
        change wpList _ _ _ _ _ wr.drew
        clear d0 d1 p0 p1 p2 p3 q0 q1 q2 q3
        go_wp2
        go_loopw [6] (fun i wr => ∃ q : Nat, q ≤ ma ∧ i = .int .i64 q ∧ Hid (Below W2.heap.size W2 wr) ∧ Hid (∀ j, j < q → (SA.getD k []).getD j [] = (SB.getD k []).getD j [])) (fun i _ => ma - (intOf i).toNat)
        case atStart => exact ⟨0, Nat.zero_le _, rfl, hBd, Lib.hid (fun j hj => by omega)⟩
        case round =>
         obtain ⟨q, hq, rfl, hBv, hEv⟩ := hrel
         obtain ⟨y0, y1⟩ := cV.out wr hBv.out
         obtain ⟨p0, p1, p2, p3⟩ := cells4 y0
         obtain ⟨q0, q1, q2, q3⟩ := cells4 y1
         have hwv := Lib.hid (hBw.out.trans (hBv.out.mono hBw.out.size))
         have d0 := (hwv.out.cell (p := ⟨b0, o0 + k, none⟩) hz0).trans hc0.out
         have d1 := (hwv.out.cell (p := ⟨b1, o1 + k, none⟩) hz1).trans hc1.out
         by_cases hlq : q < ma
         ·obtain ⟨g0, f0, r0, rfl, ec0, er0⟩ := m3.out q hlq
          obtain ⟨g1, f1, r1, rfl, ec1, er1⟩ := l3.out q hlq
          have ez0 := World.block_lt_of_cell? w _ ec0
          have ez1 := World.block_lt_of_cell? w _ ec1
          have hcf := Lib.hid (fun W (hW : Below w.heap.size w W) => (⟨(hW.cell (p := ⟨b0, o0 + k, none⟩) hz0).trans hc0.out, (hW.cell (p := ⟨b1, o1 + k, none⟩) hz1).trans hc1.out, (hW.cell (p := ⟨g0, f0 + q, none⟩) ez0).trans ec0, (hW.cell (p := ⟨g1, f1 + q, none⟩) ez1).trans ec1⟩ : _ ∧ _ ∧ _ ∧ _))
          have hcl := Lib.hid (fun W (hW : Below w.heap.size w W) => list17_any ((SA.getD k []).getD q []) ((SB.getD k []).getD q []) r0 r1 W (er0.below hW (Nat.le_refl _)) (er1.below hW (Nat.le_refl _)))
          have hS0 := Lib.hid (fun W (hW : Below wr.heap.size wr W) => (⟨hBv.out.trans (hW.mono hBv.out.size), hwv.out.trans (hW.mono hwv.out.size)⟩ : Below W2.heap.size W2 W ∧ Below w.heap.size w W))
          have j1 : (q : Int) < (ma : Int) := by omega
          have j0 : (0 : Int) ≤ (q : Int) := by omega
          have k1 : (k : Int) < (na : Int) := by omega
          have k0 : (0 : Int) ≤ (k : Int) := by omega
          have hdd : Hid (∀ d, decide ((SA.getD k []).getD q [] = (SB.getD k []).getD q []) = d → if d = true then (∀ j, j < q + 1 → (SA.getD k []).getD j [] = (SB.getD k []).getD j []) else R = false) := Lib.hid (fun d hd => by
           cases d with
           | true =>
            rw [if_pos rfl]
            intro j hj
            by_cases e : j = q
            ·rw [e]; exact decide_eq_true_iff.1 hd
            ·exact hEv.out j (by omega)
           | false =>
            rw [if_neg (by decide), ← hr1.out, Bool.true_and, decide_eq_false_iff_not]
            intro e; rw [e] at hd; simp at hd)
          replace hdd := Lib.hid (hdd.out _ rfl)
          generalize decide ((SA.getD k []).getD q [] = (SB.getD k []).getD q []) = dd at *
          have hb6 : Hid (Below wr.heap.size wr wr) := Lib.hid (Below.refl _ _)
          clear ec0 ec1 er0 er1
          cases dd with
          | true =>
           go_wp2
           clear d0 d1 p0 p1 p2 p3 q0 q1 q2 q3
           refine D_begin (fun W => Below wr.heap.size wr W) (fun _ => True) 99 (by kernel_rfl) ?_
           change wpAnyD _ _ _ _ _ _ _ _ _ _ wr.drew
           simp only [List.size_toArray, List.length_cons, List.length_nil, Nat.reduceAdd, Array.replicate_succ, Array.replicate_zero, List.push_toArray, List.append_toArray, List.nil_append, List.cons_append]
           have hD15 : Below wr.heap.size wr wr.drew := (Below.refl _ _).drew
           replace hb6 := Lib.hid (Below.then_ hb6.out hD15)
           have z_D15 := hD15.size; clear hD15
           generalize wr.drew = D15 at *
           refine Dt 0 rfl ?_ hb6.out (fun _ => trivial) ?_ ?_
           rotate_left; · intro w1 hw1; go_simp; try with_reducible rfl
           try simp only [Act.put, s_1, s_2, s_3, s_4, s_5, s_6]
           refine Dt 2 rfl ?_ hb6.out (fun _ => trivial) ?_ ?_
           rotate_left; · intro w1 hw1; go_simp; try with_reducible rfl
           try simp only [Act.put, s_1, s_2, s_3, s_4, s_5, s_6]
           refine Dt 5 rfl ?_ hb6.out (fun _ => trivial) ?_ ?_
           rotate_left; · intro w1 hw1; go_simp; try with_reducible rfl
           try simp only [Act.put, s_1, s_2, s_3, s_4, s_5, s_6]
           refine Dt 8 rfl ?_ hb6.out (fun _ => trivial) ?_ ?_
           rotate_left; · intro w1 hw1; go_simp; try with_reducible rfl
           try simp only [Act.put, s_1, s_2, s_3, s_4, s_5, s_6]
           refine Dt 10 rfl ?_ hb6.out (fun _ => trivial) ?_ ?_
           rotate_left; · intro w1 hw1; go_simp; try with_reducible rfl
           try simp only [Act.put, s_1, s_2, s_3, s_4, s_5, s_6]
           refine Dt 13 rfl ?_ hb6.out (fun _ => trivial) ?_ ?_
           rotate_left; · intro w1 hw1; go_simp; try with_reducible rfl
           try simp only [Act.put, s_1, s_2, s_3, s_4, s_5, s_6]
           refine Dt 1 rfl ?_ hb6.out (fun _ => trivial) ?_ ?_
           rotate_left; · intro w1 hw1; obtain ⟨a1, a2⟩ := hS0.out w1 hw1; obtain ⟨y0, y1⟩ := cV.out w1 a1; obtain ⟨p0, p1, p2, p3⟩ := cells4 y0; obtain ⟨s0, s1, s2, s3⟩ := cells4 y1; obtain ⟨z0, z1, z2, z3⟩ := hcf.out w1 a2; go_simp; try with_reducible rfl
           try simp only [Act.put, s_1, s_2, s_3, s_4, s_5, s_6]
           refine Dt 9 rfl ?_ hb6.out (fun _ => trivial) ?_ ?_
           rotate_left; · intro w1 hw1; obtain ⟨a1, a2⟩ := hS0.out w1 hw1; obtain ⟨y0, y1⟩ := cV.out w1 a1; obtain ⟨p0, p1, p2, p3⟩ := cells4 y0; obtain ⟨s0, s1, s2, s3⟩ := cells4 y1; obtain ⟨z0, z1, z2, z3⟩ := hcf.out w1 a2; go_simp; try with_reducible rfl
           try simp only [Act.put, s_1, s_2, s_3, s_4, s_5, s_6]
           refine Dt 3 rfl ?_ hb6.out (fun _ => trivial) ?_ ?_
           rotate_left; · intro w1 hw1; go_simp; try with_reducible rfl
           try simp only [Act.put, s_1, s_2, s_3, s_4, s_5, s_6]
           refine Dt 11 rfl ?_ hb6.out (fun _ => trivial) ?_ ?_
           rotate_left; · intro w1 hw1; go_simp; try with_reducible rfl
           try simp only [Act.put, s_1, s_2, s_3, s_4, s_5, s_6]
           refine Dt 4 rfl ?_ hb6.out (fun _ => trivial) ?_ ?_
           rotate_left; · intro w1 hw1; obtain ⟨a1, a2⟩ := hS0.out w1 hw1; obtain ⟨y0, y1⟩ := cV.out w1 a1; obtain ⟨p0, p1, p2, p3⟩ := cells4 y0; obtain ⟨s0, s1, s2, s3⟩ := cells4 y1; obtain ⟨z0, z1, z2, z3⟩ := hcf.out w1 a2; go_simp; try with_reducible rfl
           try simp only [Act.put, s_1, s_2, s_3, s_4, s_5, s_6]
           refine Dt 12 rfl ?_ hb6.out (fun _ => trivial) ?_ ?_
           rotate_left; · intro w1 hw1; obtain ⟨a1, a2⟩ := hS0.out w1 hw1; obtain ⟨y0, y1⟩ := cV.out w1 a1; obtain ⟨p0, p1, p2, p3⟩ := cells4 y0; obtain ⟨s0, s1, s2, s3⟩ := cells4 y1; obtain ⟨z0, z1, z2, z3⟩ := hcf.out w1 a2; go_simp; try with_reducible rfl
           try simp only [Act.put, s_1, s_2, s_3, s_4, s_5, s_6]
           refine Dt 6 rfl ?_ hb6.out (fun _ => trivial) ?_ ?_
           rotate_left; · intro w1 hw1; go_simp; try with_reducible rfl
           try simp only [Act.put, s_1, s_2, s_3, s_4, s_5, s_6]
           refine Dt 14 rfl ?_ hb6.out (fun _ => trivial) ?_ ?_
           rotate_left; · intro w1 hw1; go_simp; try with_reducible rfl
           try simp only [Act.put, s_1, s_2, s_3, s_4, s_5, s_6]
           refine Dt 7 rfl ?_ hb6.out (fun _ => trivial) ?_ ?_
           rotate_left; · intro w1 hw1; obtain ⟨a1, a2⟩ := hS0.out w1 hw1; obtain ⟨y0, y1⟩ := cV.out w1 a1; obtain ⟨p0, p1, p2, p3⟩ := cells4 y0; obtain ⟨s0, s1, s2, s3⟩ := cells4 y1; obtain ⟨z0, z1, z2, z3⟩ := hcf.out w1 a2; go_simp; try with_reducible rfl
           try simp only [Act.put, s_1, s_2, s_3, s_4, s_5, s_6]
           refine Dt 15 rfl ?_ hb6.out (fun _ => trivial) ?_ ?_
           rotate_left; · intro w1 hw1; obtain ⟨a1, a2⟩ := hS0.out w1 hw1; obtain ⟨y0, y1⟩ := cV.out w1 a1; obtain ⟨p0, p1, p2, p3⟩ := cells4 y0; obtain ⟨s0, s1, s2, s3⟩ := cells4 y1; obtain ⟨z0, z1, z2, z3⟩ := hcf.out w1 a2; go_simp; try with_reducible rfl
           try simp only [Act.put, s_1, s_2, s_3, s_4, s_5, s_6]
           refine D_one (i := 16) (by kernel_rfl) rfl ?_
           intro K hK
           rw [if_pos (by rfl)]
           go_wp2_with fail
           refine (hcl.out D15 (hS0.out _ hb6.out).2).mono ?_; rintro e D15_1 ⟨rfl, hE1⟩
           replace hb6 := Lib.hid (Below.then_ hb6.out hE1)
           have z_1 := hE1.size; clear hE1
           refine hK _ _ hb6.out (fun _ _ => trivial) ?_
           clear hK K
           try simp only [Act.put, s_1, s_2, s_3, s_4, s_5, s_6]
           refine Dt 17 rfl ?_ hb6.out (fun _ => trivial) ?_ ?_
           rotate_left; · intro w1 hw1; go_simp; try with_reducible rfl
           try simp only [Act.put, s_1, s_2, s_3, s_4, s_5, s_6]
           refine D_done (by kernel_rfl) ?_ _
           go_wp2
           go_roundw
           case rel => exact ⟨q + 1, by omega, by go_num, Lib.hid (hS0.out _ hb6.out).1, Lib.hid (by have := hdd.out; simpa only [if_true] using this)⟩
           case measure => simp [intOf]; omega
          | false =>
           go_wp2
           clear d0 d1 p0 p1 p2 p3 q0 q1 q2 q3
           refine D_begin (fun W => Below wr.heap.size wr W) (fun _ => True) 99 (by kernel_rfl) ?_
           change wpAnyD _ _ _ _ _ _ _ _ _ _ wr.drew
           simp only [List.size_toArray, List.length_cons, List.length_nil, Nat.reduceAdd, Array.replicate_succ, Array.replicate_zero, List.push_toArray, List.append_toArray, List.nil_append, List.cons_append]
           have hD16 : Below wr.heap.size wr wr.drew := (Below.refl _ _).drew
           replace hb6 := Lib.hid (Below.then_ hb6.out hD16)
           have z_D16 := hD16.size; clear hD16
           generalize wr.drew = D16 at *
           refine Dt 0 rfl ?_ hb6.out (fun _ => trivial) ?_ ?_
           rotate_left; · intro w1 hw1; go_simp; try with_reducible rfl
           try simp only [Act.put, s_1, s_2, s_3, s_4, s_5, s_6]
           refine Dt 2 rfl ?_ hb6.out (fun _ => trivial) ?_ ?_
           rotate_left; · intro w1 hw1; go_simp; try with_reducible rfl
           try simp only [Act.put, s_1, s_2, s_3, s_4, s_5, s_6]
           refine Dt 5 rfl ?_ hb6.out (fun _ => trivial) ?_ ?_
           rotate_left; · intro w1 hw1; go_simp; try with_reducible rfl
           try simp only [Act.put, s_1, s_2, s_3, s_4, s_5, s_6]
           refine Dt 8 rfl ?_ hb6.out (fun _ => trivial) ?_ ?_
           rotate_left; · intro w1 hw1; go_simp; try with_reducible rfl
           try simp only [Act.put, s_1, s_2, s_3, s_4, s_5, s_6]
           refine Dt 10 rfl ?_ hb6.out (fun _ => trivial) ?_ ?_
           rotate_left; · intro w1 hw1; go_simp; try with_reducible rfl
           try simp only [Act.put, s_1, s_2, s_3, s_4, s_5, s_6]
           refine Dt 13 rfl ?_ hb6.out (fun _ => trivial) ?_ ?_
           rotate_left; · intro w1 hw1; go_simp; try with_reducible rfl
           try simp only [Act.put, s_1, s_2, s_3, s_4, s_5, s_6]
           refine Dt 1 rfl ?_ hb6.out (fun _ => trivial) ?_ ?_
           rotate_left; · intro w1 hw1; obtain ⟨a1, a2⟩ := hS0.out w1 hw1; obtain ⟨y0, y1⟩ := cV.out w1 a1; obtain ⟨p0, p1, p2, p3⟩ := cells4 y0; obtain ⟨s0, s1, s2, s3⟩ := cells4 y1; obtain ⟨z0, z1, z2, z3⟩ := hcf.out w1 a2; go_simp; try with_reducible rfl
           try simp only [Act.put, s_1, s_2, s_3, s_4, s_5, s_6]
           refine Dt 9 rfl ?_ hb6.out (fun _ => trivial) ?_ ?_
           rotate_left; · intro w1 hw1; obtain ⟨a1, a2⟩ := hS0.out w1 hw1; obtain ⟨y0, y1⟩ := cV.out w1 a1; obtain ⟨p0, p1, p2, p3⟩ := cells4 y0; obtain ⟨s0, s1, s2, s3⟩ := cells4 y1; obtain ⟨z0, z1, z2, z3⟩ := hcf.out w1 a2; go_simp; try with_reducible rfl
           try simp only [Act.put, s_1, s_2, s_3, s_4, s_5, s_6]
           refine Dt 3 rfl ?_ hb6.out (fun _ => trivial) ?_ ?_
           rotate_left; · intro w1 hw1; go_simp; try with_reducible rfl
           try simp only [Act.put, s_1, s_2, s_3, s_4, s_5, s_6]
           refine Dt 11 rfl ?_ hb6.out (fun _ => trivial) ?_ ?_
           rotate_left; · intro w1 hw1; go_simp; try with_reducible rfl
           try simp only [Act.put, s_1, s_2, s_3, s_4, s_5, s_6]
           refine Dt 4 rfl ?_ hb6.out (fun _ => trivial) ?_ ?_
           rotate_left; · intro w1 hw1; obtain ⟨a1, a2⟩ := hS0.out w1 hw1; obtain ⟨y0, y1⟩ := cV.out w1 a1; obtain ⟨p0, p1, p2, p3⟩ := cells4 y0; obtain ⟨s0, s1, s2, s3⟩ := cells4 y1; obtain ⟨z0, z1, z2, z3⟩ := hcf.out w1 a2; go_simp; try with_reducible rfl
           try simp only [Act.put, s_1, s_2, s_3, s_4, s_5, s_6]
           refine Dt 12 rfl ?_ hb6.out (fun _ => trivial) ?_ ?_
           rotate_left; · intro w1 hw1; obtain ⟨a1, a2⟩ := hS0.out w1 hw1; obtain ⟨y0, y1⟩ := cV.out w1 a1; obtain ⟨p0, p1, p2, p3⟩ := cells4 y0; obtain ⟨s0, s1, s2, s3⟩ := cells4 y1; obtain ⟨z0, z1, z2, z3⟩ := hcf.out w1 a2; go_simp; try with_reducible rfl
           try simp only [Act.put, s_1, s_2, s_3, s_4, s_5, s_6]
           refine Dt 6 rfl ?_ hb6.out (fun _ => trivial) ?_ ?_
           rotate_left; · intro w1 hw1; go_simp; try with_reducible rfl
           try simp only [Act.put, s_1, s_2, s_3, s_4, s_5, s_6]
           refine Dt 14 rfl ?_ hb6.out (fun _ => trivial) ?_ ?_
           rotate_left; · intro w1 hw1; go_simp; try with_reducible rfl
           try simp only [Act.put, s_1, s_2, s_3, s_4, s_5, s_6]
           refine Dt 7 rfl ?_ hb6.out (fun _ => trivial) ?_ ?_
           rotate_left; · intro w1 hw1; obtain ⟨a1, a2⟩ := hS0.out w1 hw1; obtain ⟨y0, y1⟩ := cV.out w1 a1; obtain ⟨p0, p1, p2, p3⟩ := cells4 y0; obtain ⟨s0, s1, s2, s3⟩ := cells4 y1; obtain ⟨z0, z1, z2, z3⟩ := hcf.out w1 a2; go_simp; try with_reducible rfl
           try simp only [Act.put, s_1, s_2, s_3, s_4, s_5, s_6]
           refine Dt 15 rfl ?_ hb6.out (fun _ => trivial) ?_ ?_
           rotate_left; · intro w1 hw1; obtain ⟨a1, a2⟩ := hS0.out w1 hw1; obtain ⟨y0, y1⟩ := cV.out w1 a1; obtain ⟨p0, p1, p2, p3⟩ := cells4 y0; obtain ⟨s0, s1, s2, s3⟩ := cells4 y1; obtain ⟨z0, z1, z2, z3⟩ := hcf.out w1 a2; go_simp; try with_reducible rfl
           try simp only [Act.put, s_1, s_2, s_3, s_4, s_5, s_6]
           refine D_one (i := 16) (by kernel_rfl) rfl ?_
           intro K hK
           rw [if_pos (by rfl)]
           go_wp2_with fail
           refine (hcl.out D16 (hS0.out _ hb6.out).2).mono ?_; rintro e D16_1 ⟨rfl, hE1⟩
           replace hb6 := Lib.hid (Below.then_ hb6.out hE1)
           have z_1 := hE1.size; clear hE1
           refine hK _ _ hb6.out (fun _ _ => trivial) ?_
           clear hK K
           try simp only [Act.put, s_1, s_2, s_3, s_4, s_5, s_6]
           refine Dt 17 rfl ?_ hb6.out (fun _ => trivial) ?_ ?_
           rotate_left; · intro w1 hw1; go_simp; try with_reducible rfl
           try simp only [Act.put, s_1, s_2, s_3, s_4, s_5, s_6]
           refine D_done (by kernel_rfl) ?_ _
           go_wp2
           go_ret
           have hrf : R = false := by have := hdd.out; simpa using this
           rw [hrf]
           exact ⟨rfl, (hS0.out _ hb6.out).2⟩
         ·obtain rfl : q = ma := by omega
          have hE2 : Hid (∀ j, j < k + 1 → SA.getD j [] = SB.getD j []) := Lib.hid (fun j hj => by
           by_cases e : j = k
           ·rw [e]; exact ext_getL (hma.out.trans hmb.out.symm) (fun i hi => hEv.out i (by have := hma.out; omega))
           ·exact hE.out j (by omega))
          go_wp2
          go_roundw
          case rel => exact ⟨k + 1, by omega, by go_num, hBv, hE2⟩
          case measure => simp [intOf]; omega
       ·have hne : ((ma : Int) != (mb : Int)) = true := by rw [bne_iff_ne]; omega
        have hr : Hid (R = false) := Lib.hid (by
         rw [← hr1.out, Bool.true_and, decide_eq_false_iff_not]
         intro e2; rw [e2] at hma; exact hM (hma.out.symm.trans hmb.out))
        clear hM
        go_wp2
        go_still_tail 12, (by kernel_rfl)
        change wpList _ _ _ _ _ wr.drew
        go_wp2
        go_ret
        exact ⟨by rw [hr.out]; rfl, hBw.out.trans (hBd.out.mono hBw.out.size)⟩
      ·have hr : Hid (R = true) := Lib.hid (by
        rw [← hr1.out, Bool.true_and, decide_eq_true_iff]
        exact ext_getM (hna.out.trans hnb.out.symm) (fun j hj => hE.out j (by have := hna.out; omega)))
       obtain rfl : k = na := by omega
       go_wp2
       go_ret
       exact ⟨by rw [hr.out]; rfl, hBw.out.trans (hBr.out.mono hBw.out.size)⟩
    ·have hne : ((na : Int) != (nb : Int)) = true := by rw [bne_iff_ne]; omega
     have hr : Hid (R = false) := Lib.hid (by
      rw [← hr1.out, Bool.true_and, decide_eq_false_iff_not]
      intro e2; rw [e2] at hna; exact hN (hna.out.symm.trans hnb.out))
     clear hr1 hna hnb hN
     go_wp2_with fail
     go_ret
     exact ⟨by rw [hr.out]; rfl, hB⟩
 ·have hne : (LA != LB) = true := by rw [bne_iff_ne]; exact hL
  have hr : Hid (R = false) := Lib.hid (by rw [← hRR]; simp [hL])
  clear hRR hna hnb hL
  go_enter Tryd.func17, Tryd.ntmps17
  go_wp2_with fail
  go_ret
  exact ⟨by rw [hr.out]; rfl, hB⟩
end Go.Proofs.YtlpldfocljnpnaaDoor
namespace Go.Proofs.YtlpldfocljnpnaaDoor
open Go.RowKit Go.Shelf
theorem RdV_lit {W : World} {b n : Nat} {us : List Value} {T : TypeId} (hb : W.heap[b]? = some (.cells us.toArray T (0, 0))) (hn : us.length = n) (hl : n ≤ 1000) : RdV W (.slice (some ⟨b, 0, none⟩) n n) us := by
 refine ⟨some ⟨b, 0, none⟩, n, by rw [hn], by omega, by omega, fun _ => ⟨b, 0, rfl, fun j u hj => ?_⟩⟩
 rw [Nat.zero_add]
 unfold World.cell?
 rw [hb]
 show us.toArray[j]? = _
 rw [List.getElem?_toArray, hj]
theorem RdM_lit {W : World} {b n : Nat} {us : List Value} {rs : List (List Int)} {T : TypeId} (hb : W.heap[b]? = some (.cells us.toArray T (0, 0))) (hn : us.length = n) (hr : rs.length = n) (hl : n ≤ 1000) (h : ∀ j, j < n → RdI W (us.getD j undef) (rs.getD j [])) : RdM W (.slice (some ⟨b, 0, none⟩) n n) rs := by
 refine ⟨us, RdV_lit hb hn hl, by omega, fun j r u h1 h2 => ?_⟩
 have hj : j < n := by rw [← hn]; exact (List.getElem?_eq_some_iff.1 h2).1
 have := h j hj
 rwa [List.getD_eq_getElem?_getD, List.getD_eq_getElem?_getD, h1, h2] at this
theorem RdT_lit {W : World} {b n : Nat} {us : List Value} {rs : List (List (List Int))} {T : TypeId} (hb : W.heap[b]? = some (.cells us.toArray T (0, 0))) (hn : us.length = n) (hr : rs.length = n) (hl : n ≤ 1000) (h : ∀ j, j < n → RdM W (us.getD j undef) (rs.getD j [])) : RdT W (.slice (some ⟨b, 0, none⟩) n n) rs := by
 refine ⟨us, RdV_lit hb hn hl, by omega, fun j r u h1 h2 => ?_⟩
 have hj : j < n := by rw [← hn]; exact (List.getElem?_eq_some_iff.1 h2).1
 have := h j hj
 rwa [List.getD_eq_getElem?_getD, List.getD_eq_getElem?_getD, h1, h2] at this
theorem upto1 {P : Nat → Prop} (h0 : P 0) : ∀ j, j < 1 → P j := fun j hj => by
 have e : j = 0 := by omega
 rw [e]; exact h0
theorem upto2 {P : Nat → Prop} (h0 : P 0) (h1 : P 1) : ∀ j, j < 2 → P j := fun j hj => by
 rcases (by omega : j = 0 ∨ j = 1) with rfl | rfl
 ·exact h0
 ·exact h1
theorem lit_one {Y : World} {s e x y : Int} {g1 g2 g3 g4 g5 g6 g7 : Nat}
  (h1 : Y.heap[g1]? = some (.cells #[.int .i64 s] 3 (0, 0))) (h2 : Y.heap[g2]? = some (.cells #[.int .i64 e] 3 (0, 0))) (h3 : Y.heap[g3]? = some (.cells #[.int .i64 x] 3 (0, 0)))
  (h4 : Y.heap[g4]? = some (.cells #[.slice (some ⟨g3, 0, none⟩) 1 1] 22 (0, 0))) (h5 : Y.heap[g5]? = some (.cells #[.int .i64 y] 3 (0, 0)))
  (h6 : Y.heap[g6]? = some (.cells #[.slice (some ⟨g5, 0, none⟩) 1 1] 22 (0, 0))) (h7 : Y.heap[g7]? = some (.cells #[.slice (some ⟨g4, 0, none⟩) 1 1, .slice (some ⟨g6, 0, none⟩) 1 1] 59 (0, 0))) :
  RdA Y (.slice (some ⟨g1, 0, none⟩) 1 1) (.slice (some ⟨g2, 0, none⟩) 1 1) (.slice (some ⟨g7, 0, none⟩) 2 2) ⟨2, [s], [e], [[[x]], [[y]]]⟩ :=
 ⟨RdI_lit (xs := [s]) h1 rfl (by decide), RdI_lit (xs := [e]) h2 rfl (by decide), RdT_lit (us := [.slice (some ⟨g4, 0, none⟩) 1 1, .slice (some ⟨g6, 0, none⟩) 1 1]) h7 rfl rfl (by decide) (upto2
  (RdM_lit (us := [.slice (some ⟨g3, 0, none⟩) 1 1]) (rs := [[x]]) h4 rfl rfl (by decide) (upto1 (RdI_lit (xs := [x]) h3 rfl (by decide))))
  (RdM_lit (us := [.slice (some ⟨g5, 0, none⟩) 1 1]) (rs := [[y]]) h6 rfl rfl (by decide) (upto1 (RdI_lit (xs := [y]) h5 rfl (by decide)))))⟩
theorem lit_two {Y : World} {s0 s1 e0 e1 x0 x1 y0 y1 : Int} {g1 g2 g3 g4 g5 g6 : Nat}
  (h1 : Y.heap[g1]? = some (.cells #[.int .i64 s0, .int .i64 s1] 3 (0, 0))) (h2 : Y.heap[g2]? = some (.cells #[.int .i64 e0, .int .i64 e1] 3 (0, 0)))
  (h3 : Y.heap[g3]? = some (.cells #[.int .i64 x0, .int .i64 x1] 3 (0, 0))) (h4 : Y.heap[g4]? = some (.cells #[.int .i64 y0, .int .i64 y1] 3 (0, 0)))
  (h5 : Y.heap[g5]? = some (.cells #[.slice (some ⟨g3, 0, none⟩) 2 2, .slice (some ⟨g4, 0, none⟩) 2 2] 22 (0, 0))) (h6 : Y.heap[g6]? = some (.cells #[.slice (some ⟨g5, 0, none⟩) 2 2] 59 (0, 0))) :
  RdA Y (.slice (some ⟨g1, 0, none⟩) 2 2) (.slice (some ⟨g2, 0, none⟩) 2 2) (.slice (some ⟨g6, 0, none⟩) 1 1) ⟨1, [s0, s1], [e0, e1], [[[x0, x1], [y0, y1]]]⟩ :=
 ⟨RdI_lit (xs := [s0, s1]) h1 rfl (by decide), RdI_lit (xs := [e0, e1]) h2 rfl (by decide), RdT_lit (us := [.slice (some ⟨g5, 0, none⟩) 2 2]) h6 rfl rfl (by decide) (upto1
  (RdM_lit (us := [.slice (some ⟨g3, 0, none⟩) 2 2, .slice (some ⟨g4, 0, none⟩) 2 2]) (rs := [[x0, x1], [y0, y1]]) h5 rfl rfl (by decide) (upto2 (RdI_lit (xs := [x0, x1]) h3 rfl (by decide)) (RdI_lit (xs := [y0, y1]) h4 rfl (by decide)))))⟩
def LitOut (a : Aut) (w : World) (r : Ending) (w' : World) : Prop := ∃ s e t, r = .returned (.agg #[.int .i64 a.letters, s, e, t]) ∧ RdA w' s e t a ∧ Below w.heap.size w w'
theorem Two_any (w : World) : Calls Tryd.prog 47 #[] w (LitOut twoA w) := by
 have hg := fun i o h => allocs_get w [.cells #[.int .i64 2, .slice (some ⟨w.heap.size + 1, 0, none⟩) 1 1, .slice (some ⟨w.heap.size + 1 + 1, 0, none⟩) 1 1, .slice (some ⟨w.heap.size + 1 + 1 + 1 + 1 + 1 + 1 + 1, 0, none⟩) 2 2] 25, .cells #[.int .i64 1] 3, .cells #[.int .i64 1] 3, .cells #[.int .i64 2] 3, .cells #[.slice (some ⟨w.heap.size + 1 + 1 + 1, 0, none⟩) 1 1] 22, .cells #[.int .i64 3] 3, .cells #[.slice (some ⟨w.heap.size + 1 + 1 + 1 + 1 + 1, 0, none⟩) 1 1] 22, .cells #[.slice (some ⟨w.heap.size + 1 + 1 + 1 + 1, 0, none⟩) 1 1, .slice (some ⟨w.heap.size + 1 + 1 + 1 + 1 + 1 + 1, 0, none⟩) 1 1] 59] i o h
 have hlow := allocs_below w [.cells #[.int .i64 2, .slice (some ⟨w.heap.size + 1, 0, none⟩) 1 1, .slice (some ⟨w.heap.size + 1 + 1, 0, none⟩) 1 1, .slice (some ⟨w.heap.size + 1 + 1 + 1 + 1 + 1 + 1 + 1, 0, none⟩) 2 2] 25, .cells #[.int .i64 1] 3, .cells #[.int .i64 1] 3, .cells #[.int .i64 2] 3, .cells #[.slice (some ⟨w.heap.size + 1 + 1 + 1, 0, none⟩) 1 1] 22, .cells #[.int .i64 3] 3, .cells #[.slice (some ⟨w.heap.size + 1 + 1 + 1 + 1 + 1, 0, none⟩) 1 1] 22, .cells #[.slice (some ⟨w.heap.size + 1 + 1 + 1 + 1, 0, none⟩) 1 1, .slice (some ⟨w.heap.size + 1 + 1 + 1 + 1 + 1 + 1, 0, none⟩) 1 1] 59]
 simp only [allocs, List.foldl] at hlow
 have hrd := lit_one (hg 1 _ rfl) (hg 2 _ rfl) (hg 3 _ rfl) (hg 4 _ rfl) (hg 5 _ rfl) (hg 6 _ rfl) (hg 7 _ rfl)
 have hb0 := hg 0 _ rfl
 simp only [allocs, List.foldl] at hrd hb0
 clear hg
 replace hlow := Lib.hid hlow
 replace hrd := Lib.hid hrd
 replace hb0 := Lib.hid hb0
 go_enter Tryd.func47, Tryd.ntmps47
 go_wp2_with fail
 refine bodyPost_ret (res_c1 rfl _ _ w.heap.size 25 _ (0, 0) _ rfl hb0.out rfl rfl rfl) rfl ?_
 exact ⟨_, _, _, rfl, hrd.out, hlow.out⟩
theorem Counting_any (w : World) : Calls Tryd.prog 48 #[] w (LitOut countA w) := by
 have hg := fun i o h => allocs_get w [.cells #[.int .i64 1, .slice (some ⟨w.heap.size + 1, 0, none⟩) 2 2, .slice (some ⟨w.heap.size + 1 + 1, 0, none⟩) 2 2, .slice (some ⟨w.heap.size + 1 + 1 + 1 + 1 + 1 + 1, 0, none⟩) 1 1] 25, .cells #[.int .i64 1, .int .i64 0] 3, .cells #[.int .i64 0, .int .i64 1] 3, .cells #[.int .i64 1, .int .i64 1] 3, .cells #[.int .i64 0, .int .i64 1] 3, .cells #[.slice (some ⟨w.heap.size + 1 + 1 + 1, 0, none⟩) 2 2, .slice (some ⟨w.heap.size + 1 + 1 + 1 + 1, 0, none⟩) 2 2] 22, .cells #[.slice (some ⟨w.heap.size + 1 + 1 + 1 + 1 + 1, 0, none⟩) 2 2] 59] i o h
 have hlow := allocs_below w [.cells #[.int .i64 1, .slice (some ⟨w.heap.size + 1, 0, none⟩) 2 2, .slice (some ⟨w.heap.size + 1 + 1, 0, none⟩) 2 2, .slice (some ⟨w.heap.size + 1 + 1 + 1 + 1 + 1 + 1, 0, none⟩) 1 1] 25, .cells #[.int .i64 1, .int .i64 0] 3, .cells #[.int .i64 0, .int .i64 1] 3, .cells #[.int .i64 1, .int .i64 1] 3, .cells #[.int .i64 0, .int .i64 1] 3, .cells #[.slice (some ⟨w.heap.size + 1 + 1 + 1, 0, none⟩) 2 2, .slice (some ⟨w.heap.size + 1 + 1 + 1 + 1, 0, none⟩) 2 2] 22, .cells #[.slice (some ⟨w.heap.size + 1 + 1 + 1 + 1 + 1, 0, none⟩) 2 2] 59]
 simp only [allocs, List.foldl] at hlow
 have hrd := lit_two (hg 1 _ rfl) (hg 2 _ rfl) (hg 3 _ rfl) (hg 4 _ rfl) (hg 5 _ rfl) (hg 6 _ rfl)
 have hb0 := hg 0 _ rfl
 simp only [allocs, List.foldl] at hrd hb0
 clear hg
 replace hlow := Lib.hid hlow
 replace hrd := Lib.hid hrd
 replace hb0 := Lib.hid hb0
 go_enter Tryd.func48, Tryd.ntmps48
 go_wp2_with fail
 refine bodyPost_ret (res_c1 rfl _ _ w.heap.size 25 _ (0, 0) _ rfl hb0.out rfl rfl rfl) rfl ?_
 exact ⟨_, _, _, rfl, hrd.out, hlow.out⟩
theorem fib_any (w : World) : Calls Tryd.prog 50 #[] w fun r w' => ∃ v, r = .returned v ∧ RdR w' v fibR ∧ Below w.heap.size w w' := by
 have hg := fun i o h => allocs_get w [.cells #[.slice (some ⟨w.heap.size + 1, 0, none⟩) 2 2, .slice (some ⟨w.heap.size + 1 + 1, 0, none⟩) 2 2] 41, .cells #[.int .i64 1, .int .i64 1] 3, .cells #[.int .i64 0, .int .i64 1] 3] i o h
 have hlow := allocs_below w [.cells #[.slice (some ⟨w.heap.size + 1, 0, none⟩) 2 2, .slice (some ⟨w.heap.size + 1 + 1, 0, none⟩) 2 2] 41, .cells #[.int .i64 1, .int .i64 1] 3, .cells #[.int .i64 0, .int .i64 1] 3]
 have r1 := RdI_lit (xs := [1, 1]) (hg 1 _ rfl) rfl (by decide)
 have r2 := RdI_lit (xs := [0, 1]) (hg 2 _ rfl) rfl (by decide)
 have hb0 := hg 0 _ rfl
 simp only [allocs, List.foldl] at r1 r2 hb0 hlow
 clear hg
 replace hlow := Lib.hid hlow
 replace r1 := Lib.hid r1
 replace r2 := Lib.hid r2
 replace hb0 := Lib.hid hb0
 go_enter Tryd.func50, Tryd.ntmps50
 go_wp2_with fail
 refine bodyPost_ret (res_c1 rfl _ _ w.heap.size 41 _ (0, 0) _ rfl hb0.out rfl rfl rfl) rfl ?_
 exact ⟨_, rfl, ⟨_, _, rfl, r1.out, r2.out⟩, hlow.out⟩
def AutOut (a : Aut) (er : Int) (w : World) (r : Ending) (w' : World) : Prop := ∃ A1 n1 c1 A2 n2 c2 A3 n3 c3, r = .returned (.tuple #[.agg #[.int .i64 a.letters, .slice A1 n1 c1, .slice A2 n2 c2, .slice A3 n3 c3], .int .i64 er]) ∧ RdA w' (.slice A1 n1 c1) (.slice A2 n2 c2) (.slice A3 n3 c3) a ∧ Below w.heap.size w w'
def sizeA (a : Aut) : Bool := decide (a.start.length ≤ 1000) && decide (a.end_.length ≤ 1000) && decide (a.steps.length ≤ 1000) && a.steps.all fun m => decide (m.length ≤ 1000) && m.all fun r => decide (r.length ≤ 1000)
theorem ResA.told {a : Aut} {er : Int} {p : Aut × Int} (hp : p = (a, er)) (hs : sizeA a = true) {w w' : World} {r : Ending} (h : ResA p w r w') : AutOut a er w r w' := by
 subst hp
 obtain ⟨x, rfl, hF, hB⟩ := h
 obtain ⟨A1, A2, A3, n1, n2, n3, c1, c2, c3, rfl⟩ := hF.form
 unfold sizeA at hs
 simp only [Bool.and_eq_true, decide_eq_true_eq, List.all_eq_true] at hs
 obtain ⟨⟨⟨h1, h2⟩, h3⟩, h4⟩ := hs
 exact ⟨_, _, _, _, _, _, _, _, _, rfl, hF.rd (Nat.le_trans h1 (by decide)) (Nat.le_trans h2 (by decide)) (Nat.le_trans h3 (by decide)) (fun m hm => ⟨Nat.le_trans (h4 m hm).1 (by decide), fun r hr => Nat.le_trans ((h4 m hm).2 r hr) (by decide)⟩), hB⟩
theorem aw17_weight {a : Aut} {ks : ByteArray} {n : Int} (hv : weightP a ks = (n, 0)) (hk : ks.size ≤ 1000) (s e t : Value) (w : World) (ra : RdA w s e t a) :
  Calls Tryd.prog 21 #[.agg #[.int .i64 a.letters, s, e, t], .string ks] w fun r w' => r = .returned (.tuple #[.int .i64 n, .int .i64 0]) ∧ Below w.heap.size w w' := by
 have := WeightA_any a ks s e t w ra (by omega)
 rwa [hv] at this
theorem aw17_chosen (s e t : Value) (w : World) (ra : RdA w s e t countA) :
  Calls Tryd.prog 14 #[.agg #[.int .i64 countA.letters, s, e, t]] w fun r w' => ∃ v, r = .returned (.tuple #[v, .int .i64 0]) ∧ RdV w' v ([⟨#[]⟩, ⟨#[97]⟩].map Value.string) ∧ Below w.heap.size w w' := by
 refine (ChosenA_any countA s e t w ra).mono ?_
 rintro r w' ⟨⟨v, rfl, hv⟩, hb⟩
 rw [v_chosen] at hv ⊢
 exact ⟨v, rfl, hv, hb⟩
theorem aw17_lengths (s e t : Value) (w : World) (ra : RdA w s e t countA) :
  Calls Tryd.prog 22 #[.agg #[.int .i64 countA.letters, s, e, t]] w fun e w' => ∃ m, e = .returned (.tuple #[m, .int .i64 0]) ∧ RuleAt ⟨[2, 65520], [0, 1]⟩ w' m ∧ Below w.heap.size w w' := by
 refine (LengthsA_any countA s e t w ra).mono ?_
 rintro e w' ⟨m, rfl, hO, hB⟩
 rw [v_lengths] at hO ⊢
 exact ⟨m, rfl, hO.at_ (by decide) (by decide), hB⟩
theorem aw17_rule (v : Value) (w : World) (h : RdR w v fibR) : Calls Tryd.prog 49 #[v] w (AutOut fibA 0 w) := (OfRuleA_any fibR v w h).mono fun _ _ h => h.told v_fib (by decide)
theorem aw17_left (s e t : Value) (w : World) (ra : RdA w s e t twoA) : Calls Tryd.prog 43 #[.agg #[.int .i64 twoA.letters, s, e, t], .int .i64 1] w (AutOut ⟨2, [1], [3], [[[2]], [[3]]]⟩ 0 w) := (LeftA_any twoA 1 s e t w ra).mono fun _ _ h => h.told v_left (by decide)
theorem aw17_star (s e t : Value) (w : World) (ra : RdA w s e t starIn) : Calls Tryd.prog 37 #[.agg #[.int .i64 starIn.letters, s, e, t]] w (AutOut doubA 0 w) := (StarA_any starIn s e t w ra).mono fun _ _ h => h.told v_star (by decide)
theorem aw17_product (s e t : Value) (w : World) (ra : RdA w s e t fibA) (hJ : WaysAt w kwProduct 160) : Calls Tryd.prog 34 #[.agg #[.int .i64 fibA.letters, s, e, t], .agg #[.int .i64 fibA.letters, s, e, t]] w (AutOut prodA 0 w) := (ProductA_any fibA fibA s e t s e t w ra ra hJ).mono fun _ _ h => h.told v_product (by decide)
theorem aw17_same (v u : Value) (w : World) (r : Rule) (h : RdR w v r) (h' : RdR w u r) : Calls Tryd.prog 26 #[v, u] w fun e w' => e = .returned (.bool true) ∧ Below w.heap.size w w' := by
 have := Same_any r r v u w h h'
 rwa [sameR, decide_eq_true rfl, decide_eq_true rfl] at this
theorem aw17_equal (a : Aut) (s e t s' e' t' : Value) (w : World) (ra : RdA w s e t a) (rb : RdA w s' e' t' a) :
  Calls Tryd.prog 17 #[.agg #[.int .i64 a.letters, s, e, t], .agg #[.int .i64 a.letters, s', e', t']] w fun r w' => r = .returned (.bool true) ∧ Below w.heap.size w w' := by
 have := EqualA_any a a s e t s' e' t' w ra rb
 rwa [eqA, decide_eq_true rfl, decide_eq_true rfl, decide_eq_true rfl, decide_eq_true rfl] at this
theorem aw17_words (xs : List ByteArray) (v u : Value) (w : World) (h : RdV w v (xs.map Value.string)) (h' : RdV w u (xs.map Value.string)) : Calls Tryd.prog 16 #[v, u] w fun e w' => e = .returned (.bool true) ∧ Below w.heap.size w w' := by
 have := EqualS_any xs xs v u w h h'
 rwa [decide_eq_true rfl] at this
def Kp (A : World) (P : World → Prop) : Prop := ∀ W, Below A.heap.size A W → P W
theorem Kp.next {A B : World} {P : World → Prop} (h : Kp A P) (hb : Below A.heap.size A B) : Kp B P := fun W hW => h W (hb.trans (hW.mono hb.size))
theorem Kp.now {A : World} {P : World → Prop} (h : Kp A P) : P A := h A (Below.refl _ _)
def BoxA (g : Nat) (s e t : Value) (a : Aut) (W : World) : Prop := W.heap[g]? = some (.cells #[.int .i64 a.letters, s, e, t] 25 (0, 0)) ∧ RdA W s e t a
theorem BoxA.kp {g : Nat} {s e t : Value} {a : Aut} {W : World} (h : BoxA g s e t a W) : Kp W (BoxA g s e t a) := fun _ hW => ⟨heap_keep h.1 hW, h.2.below hW (Nat.le_refl _)⟩
theorem BoxA.new {s e t : Value} {a : Aut} {W : World} (h : RdA W s e t a) : BoxA W.heap.size s e t a (W.alloc (.cells #[.int .i64 a.letters, s, e, t] 25)) := ⟨heap_alloc_new _ _, h.below ((Below.refl _ _).alloc (Nat.le_refl _) _) (Nat.le_refl _)⟩
def BoxR (g : Nat) (x y : Value) (r : Rule) (W : World) : Prop := W.heap[g]? = some (.cells #[x, y] 41 (0, 0)) ∧ RdI W x r.by_ ∧ RdI W y r.start
theorem BoxR.kp {g : Nat} {x y : Value} {r : Rule} {W : World} (h : BoxR g x y r W) : Kp W (BoxR g x y r) := fun _ hW => ⟨heap_keep h.1 hW, h.2.1.below hW (Nat.le_refl _), h.2.2.below hW (Nat.le_refl _)⟩
theorem BoxR.new {x y : Value} {r : Rule} {W : World} (h1 : RdI W x r.by_) (h2 : RdI W y r.start) : BoxR W.heap.size x y r (W.alloc (.cells #[x, y] 41)) := ⟨heap_alloc_new _ _, h1.below ((Below.refl _ _).alloc (Nat.le_refl _) _) (Nat.le_refl _), h2.below ((Below.refl _ _).alloc (Nat.le_refl _) _) (Nat.le_refl _)⟩
theorem cells2 {W : World} {g : Nat} {a b : Value} {T : TypeId} {fr : Nat × Nat} (h : W.heap[g]? = some (.cells #[a, b] T fr)) : W.cell? ⟨g, 0, none⟩ = some a ∧ W.cell? ⟨g, 1, none⟩ = some b := by
 unfold World.cell?; rw [h]; exact ⟨rfl, rfl⟩
end Go.Proofs.YtlpldfocljnpnaaDoor
namespace Go.Proofs.YtlpldfocljnpnaaDoor
open Go.RowKit Go.Shelf
def leftV : Aut := ⟨2, [1], [3], [[[2]], [[3]]]⟩
theorem aw17_left2 (s e t : Value) (w : World) (ra : RdA w s e t twoA) : Calls Tryd.prog 43 #[.agg #[.int .i64 twoA.letters, s, e, t], .int .i64 1] w (AutOut leftV 0 w) := aw17_left s e t w ra
theorem awake17_any (w : World) (hJ : WaysAt w kwProduct 160) : Calls Tryd.prog 9 #[] w fun e w' => e = .returned (.bool true) ∧ Below w.heap.size w w' := by
 replace hJ := Lib.hid hJ
 have hB := Lib.hid (Below.refl w.heap.size w)
 go_enter Tryd.func9, Tryd.ntmps9
 go_wp2_with fail
 refine (Two_any _).mono ?_; rintro ev W1 ⟨s, e, t, rfl, ra, hb⟩
 replace hB := Lib.hid (Below.then_ hB.out hb)
 clear hb
 go_wp2_with fail
 refine (aw17_weight v_weight (by decide) s e t _ ra).mono ?_; rintro ev W2 ⟨rfl, hb⟩
 replace hB := Lib.hid (Below.then_ hB.out hb)
 clear hb
 clear ra
 go_wp2_with fail
 refine (Counting_any _).mono ?_; rintro ev W3 ⟨s, e, t, rfl, ra, hb⟩
 replace hB := Lib.hid (Below.then_ hB.out hb)
 clear hb
 go_wp2_with fail
 refine (aw17_chosen s e t _ ra).mono ?_; rintro ev W4 ⟨vl, rfl, hl, hb⟩
 replace hB := Lib.hid (Below.then_ hB.out hb)
 clear hb
 clear ra
 have kl : Hid (Kp W4 (fun W => RdV W vl ([⟨#[]⟩, ⟨#[97]⟩].map Value.string))) := Lib.hid (fun W hW => hl.below hW (Nat.le_refl _))
 clear hl
 go_wp2_with fail
 refine (Counting_any _).mono ?_; rintro ev W5 ⟨s, e, t, rfl, ra, hb⟩
 replace hB := Lib.hid (Below.then_ hB.out hb)
 replace kl := Lib.hid (kl.out.next hb)
 clear hb
 go_wp2_with fail
 refine (aw17_lengths s e t _ ra).mono ?_; rintro ev W6 ⟨m, rfl, hR, hb⟩
 replace hB := Lib.hid (Below.then_ hB.out hb)
 replace kl := Lib.hid (kl.out.next hb)
 clear hb
 clear ra
 obtain ⟨A5, c5, B5, d5, rfl, r1, r2⟩ := hR
 have k5 := BoxR.new r1 r2
 have hb := (Below.refl W6.heap.size W6).alloc (Nat.le_refl _) (.cells #[.slice A5 2 c5, .slice B5 2 d5] 41)
 clear r1 r2
 replace hb := Lib.hid hb
 replace k5 := Lib.hid k5.kp
 go_wp2_with fail
 generalize W6.alloc (.cells #[.slice A5 2 c5, .slice B5 2 d5] 41) = X5 at *
 replace hb := hb.out
 replace hB := Lib.hid (Below.then_ hB.out hb)
 replace kl := Lib.hid (kl.out.next hb)
 clear hb
 go_wp2_with fail
 refine (fib_any _).mono ?_; rintro ev W7 ⟨v4, rfl, hv4, hb⟩
 replace hB := Lib.hid (Below.then_ hB.out hb)
 replace kl := Lib.hid (kl.out.next hb)
 replace k5 := Lib.hid (k5.out.next hb)
 clear hb
 go_wp2_with fail
 refine (aw17_rule v4 _ hv4).mono ?_; rintro ev W8 ⟨Aa7, na7, ca7, Ab7, nb7, cb7, Ac7, nc7, cc7, rfl, ra, hb⟩
 replace hB := Lib.hid (Below.then_ hB.out hb)
 replace kl := Lib.hid (kl.out.next hb)
 replace k5 := Lib.hid (k5.out.next hb)
 clear hb
 clear hv4
 have k7 := BoxA.new ra
 have hb := (Below.refl W8.heap.size W8).alloc (Nat.le_refl _) (.cells #[.int .i64 (fibA : Aut).letters, (.slice Aa7 na7 ca7), (.slice Ab7 nb7 cb7), (.slice Ac7 nc7 cc7)] 25)
 obtain ⟨p0, p1, p2, p3⟩ := cells4 k7.1
 have hgb := hb
 go_wp2_with fail
 clear p0 p1 p2 p3 hgb
 generalize W8.alloc (.cells #[.int .i64 (fibA : Aut).letters, (.slice Aa7 na7 ca7), (.slice Ab7 nb7 cb7), (.slice Ac7 nc7 cc7)] 25) = X9 at *
 replace hB := Lib.hid (Below.then_ hB.out hb)
 replace kl := Lib.hid (kl.out.next hb)
 replace k5 := Lib.hid (k5.out.next hb)
 clear hb
 replace k7 := Lib.hid k7.kp
 refine (aw17_product _ _ _ _ k7.out.now.2 (hJ.out.below hB.out)).mono ?_; rintro ev W10 ⟨Aa9, na9, ca9, Ab9, nb9, cb9, Ac9, nc9, cc9, rfl, rb, hb⟩
 replace hB := Lib.hid (Below.then_ hB.out hb)
 replace kl := Lib.hid (kl.out.next hb)
 replace k5 := Lib.hid (k5.out.next hb)
 replace k7 := Lib.hid (k7.out.next hb)
 clear hb
 clear ra
 have k9 := BoxA.new rb
 have hb := (Below.refl W10.heap.size W10).alloc (Nat.le_refl _) (.cells #[.int .i64 (prodA : Aut).letters, (.slice Aa9 na9 ca9), (.slice Ab9 nb9 cb9), (.slice Ac9 nc9 cc9)] 25)
 obtain ⟨p0, p1, p2, p3⟩ := cells4 k9.1
 have hgb := hb
 go_wp2_with fail
 clear p0 p1 p2 p3 hgb
 generalize W10.alloc (.cells #[.int .i64 (prodA : Aut).letters, (.slice Aa9 na9 ca9), (.slice Ab9 nb9 cb9), (.slice Ac9 nc9 cc9)] 25) = X11 at *
 replace hB := Lib.hid (Below.then_ hB.out hb)
 replace kl := Lib.hid (kl.out.next hb)
 replace k5 := Lib.hid (k5.out.next hb)
 replace k7 := Lib.hid (k7.out.next hb)
 clear hb
 replace k9 := Lib.hid k9.kp
 refine (aw17_weight v_weight4 (by decide) _ _ _ _ k9.out.now.2).mono ?_; rintro ev W12 ⟨rfl, hb⟩
 replace hB := Lib.hid (Below.then_ hB.out hb)
 replace kl := Lib.hid (kl.out.next hb)
 replace k5 := Lib.hid (k5.out.next hb)
 replace k7 := Lib.hid (k7.out.next hb)
 replace k9 := Lib.hid (k9.out.next hb)
 clear hb
 clear rb k9
 go_wp2_with fail
 refine (Two_any _).mono ?_; rintro ev W13 ⟨s, e, t, rfl, ra, hb⟩
 replace hB := Lib.hid (Below.then_ hB.out hb)
 replace kl := Lib.hid (kl.out.next hb)
 replace k5 := Lib.hid (k5.out.next hb)
 replace k7 := Lib.hid (k7.out.next hb)
 clear hb
 go_wp2_with fail
 refine (aw17_left2 s e t _ ra).mono ?_; rintro ev W14 ⟨Aa13, na13, ca13, Ab13, nb13, cb13, Ac13, nc13, cc13, rfl, rb, hb⟩
 replace hB := Lib.hid (Below.then_ hB.out hb)
 replace kl := Lib.hid (kl.out.next hb)
 replace k5 := Lib.hid (k5.out.next hb)
 replace k7 := Lib.hid (k7.out.next hb)
 clear hb
 clear ra
 have hg := fun i o h => allocs_get W14 [.cells #[.int .i64 (leftV : Aut).letters, .slice Aa13 na13 ca13, .slice Ab13 nb13 cb13, .slice Ac13 nc13 cc13] 25, .cells #[.int .i64 1, .int .i64 0] 3, .cells #[.int .i64 0, .int .i64 2] 3, .cells #[.int .i64 0, .int .i64 1] 3, .cells #[.int .i64 0, .int .i64 0] 3, .cells #[.slice (some ⟨W14.heap.size + 1 + 1 + 1, 0, none⟩) 2 2, .slice (some ⟨W14.heap.size + 1 + 1 + 1 + 1, 0, none⟩) 2 2] 22, .cells #[.slice (some ⟨W14.heap.size + 1 + 1 + 1 + 1 + 1, 0, none⟩) 2 2] 59] i o h
 have hb := allocs_below W14 [.cells #[.int .i64 (leftV : Aut).letters, .slice Aa13 na13 ca13, .slice Ab13 nb13 cb13, .slice Ac13 nc13 cc13] 25, .cells #[.int .i64 1, .int .i64 0] 3, .cells #[.int .i64 0, .int .i64 2] 3, .cells #[.int .i64 0, .int .i64 1] 3, .cells #[.int .i64 0, .int .i64 0] 3, .cells #[.slice (some ⟨W14.heap.size + 1 + 1 + 1, 0, none⟩) 2 2, .slice (some ⟨W14.heap.size + 1 + 1 + 1 + 1, 0, none⟩) 2 2] 22, .cells #[.slice (some ⟨W14.heap.size + 1 + 1 + 1 + 1 + 1, 0, none⟩) 2 2] 59]
 have rs := (show RdA _ _ _ _ starIn from lit_two (hg 1 _ rfl) (hg 2 _ rfl) (hg 3 _ rfl) (hg 4 _ rfl) (hg 5 _ rfl) (hg 6 _ rfl))
 have k13 := (show BoxA (W14.heap.size) _ _ _ leftV _ from ⟨hg 0 _ rfl, rb.below hb (Nat.le_refl _)⟩)
 simp only [allocs, List.foldl] at hb rs k13
 clear hg
 replace rs := Lib.hid rs
 replace k13 := Lib.hid k13
 replace hb := Lib.hid hb
 replace k13 := Lib.hid k13.out.kp
 clear rb
 go_wp2_with fail
 generalize (((((((W14.alloc (.cells #[.int .i64 (leftV : Aut).letters, .slice Aa13 na13 ca13, .slice Ab13 nb13 cb13, .slice Ac13 nc13 cc13] 25)).alloc (.cells #[.int .i64 1, .int .i64 0] 3)).alloc (.cells #[.int .i64 0, .int .i64 2] 3)).alloc (.cells #[.int .i64 0, .int .i64 1] 3)).alloc (.cells #[.int .i64 0, .int .i64 0] 3)).alloc (.cells #[.slice (some ⟨W14.heap.size + 1 + 1 + 1, 0, none⟩) 2 2, .slice (some ⟨W14.heap.size + 1 + 1 + 1 + 1, 0, none⟩) 2 2] 22)).alloc (.cells #[.slice (some ⟨W14.heap.size + 1 + 1 + 1 + 1 + 1, 0, none⟩) 2 2] 59)) = X15 at *
 replace hb := hb.out
 replace hB := Lib.hid (Below.then_ hB.out hb)
 replace kl := Lib.hid (kl.out.next hb)
 replace k5 := Lib.hid (k5.out.next hb)
 replace k7 := Lib.hid (k7.out.next hb)
 clear hb
 refine (aw17_star _ _ _ _ rs.out).mono ?_; rintro ev W16 ⟨Aa15, na15, ca15, Ab15, nb15, cb15, Ac15, nc15, cc15, rfl, rb, hb⟩
 replace hB := Lib.hid (Below.then_ hB.out hb)
 replace kl := Lib.hid (kl.out.next hb)
 replace k5 := Lib.hid (k5.out.next hb)
 replace k7 := Lib.hid (k7.out.next hb)
 replace k13 := Lib.hid (k13.out.next hb)
 clear hb
 clear rs
 have k15 := BoxA.new rb
 have hb := (Below.refl W16.heap.size W16).alloc (Nat.le_refl _) (.cells #[.int .i64 (doubA : Aut).letters, (.slice Aa15 na15 ca15), (.slice Ab15 nb15 cb15), (.slice Ac15 nc15 cc15)] 25)
 obtain ⟨p0, p1, p2, p3⟩ := cells4 k15.1
 have hgb := hb
 go_wp2_with fail
 clear p0 p1 p2 p3 hgb
 generalize W16.alloc (.cells #[.int .i64 (doubA : Aut).letters, (.slice Aa15 na15 ca15), (.slice Ab15 nb15 cb15), (.slice Ac15 nc15 cc15)] 25) = X17 at *
 replace hB := Lib.hid (Below.then_ hB.out hb)
 replace kl := Lib.hid (kl.out.next hb)
 replace k5 := Lib.hid (k5.out.next hb)
 replace k7 := Lib.hid (k7.out.next hb)
 replace k13 := Lib.hid (k13.out.next hb)
 clear hb
 replace k15 := Lib.hid k15.kp
 refine (aw17_weight v_weight5 (by decide) _ _ _ _ k15.out.now.2).mono ?_; rintro ev W18 ⟨rfl, hb⟩
 replace hB := Lib.hid (Below.then_ hB.out hb)
 replace kl := Lib.hid (kl.out.next hb)
 replace k5 := Lib.hid (k5.out.next hb)
 replace k7 := Lib.hid (k7.out.next hb)
 replace k13 := Lib.hid (k13.out.next hb)
 replace k15 := Lib.hid (k15.out.next hb)
 clear hb
 clear rb k15
 have hg := fun i o h => allocs_get W18 [.cells #[.string ⟨#[]⟩, .string ⟨#[97]⟩] 9] i o h
 have hb := allocs_below W18 [.cells #[.string ⟨#[]⟩, .string ⟨#[97]⟩] 9]
 have rl := (show RdV _ _ ([⟨#[]⟩, ⟨#[97]⟩].map Value.string) from RdV_lit (us := [.string ⟨#[]⟩, .string ⟨#[97]⟩]) (hg 0 _ rfl) rfl (by decide))
 simp only [allocs, List.foldl] at hb rl
 clear hg
 replace rl := Lib.hid rl
 replace hb := Lib.hid hb
 go_wp2_with fail
 generalize (W18.alloc (.cells #[.string ⟨#[]⟩, .string ⟨#[97]⟩] 9)) = X19 at *
 replace hb := hb.out
 replace hB := Lib.hid (Below.then_ hB.out hb)
 replace kl := Lib.hid (kl.out.next hb)
 replace k5 := Lib.hid (k5.out.next hb)
 replace k7 := Lib.hid (k7.out.next hb)
 replace k13 := Lib.hid (k13.out.next hb)
 clear hb
 refine (aw17_words [⟨#[]⟩, ⟨#[97]⟩] _ _ _ kl.out.now rl.out).mono ?_; rintro ev W20 ⟨rfl, hb⟩
 replace hB := Lib.hid (Below.then_ hB.out hb)
 replace kl := Lib.hid (kl.out.next hb)
 replace k5 := Lib.hid (k5.out.next hb)
 replace k7 := Lib.hid (k7.out.next hb)
 replace k13 := Lib.hid (k13.out.next hb)
 clear hb
 clear rl kl
 have hg := fun i o h => allocs_get W20 [.cells #[.int .i64 2, .int .i64 65520] 3, .cells #[.int .i64 0, .int .i64 1] 3] i o h
 have hb := allocs_below W20 [.cells #[.int .i64 2, .int .i64 65520] 3, .cells #[.int .i64 0, .int .i64 1] 3]
 have r1 := RdI_lit (xs := [2, 65520]) (hg 0 _ rfl) rfl (by decide)
 have r2 := RdI_lit (xs := [0, 1]) (hg 1 _ rfl) rfl (by decide)
 simp only [allocs, List.foldl] at hb r1 r2
 clear hg
 replace r1 := Lib.hid r1
 replace r2 := Lib.hid r2
 replace hb := Lib.hid hb
 obtain ⟨q0, q1⟩ := cells2 k5.out.now.1
 go_wp2_with fail
 clear q0 q1
 generalize ((W20.alloc (.cells #[.int .i64 2, .int .i64 65520] 3)).alloc (.cells #[.int .i64 0, .int .i64 1] 3)) = X21 at *
 replace hb := hb.out
 replace hB := Lib.hid (Below.then_ hB.out hb)
 replace k5 := Lib.hid (k5.out.next hb)
 replace k7 := Lib.hid (k7.out.next hb)
 replace k13 := Lib.hid (k13.out.next hb)
 clear hb
 refine (aw17_same _ _ _ _ ⟨_, _, rfl, k5.out.now.2.1, k5.out.now.2.2⟩ ⟨_, _, rfl, r1.out, r2.out⟩).mono ?_; rintro ev W22 ⟨rfl, hb⟩
 replace hB := Lib.hid (Below.then_ hB.out hb)
 replace k5 := Lib.hid (k5.out.next hb)
 replace k7 := Lib.hid (k7.out.next hb)
 replace k13 := Lib.hid (k13.out.next hb)
 clear hb
 clear r1 r2 k5
 have hg := fun i o h => allocs_get W22 [.cells #[.int .i64 1, .int .i64 0] 3, .cells #[.int .i64 0, .int .i64 1] 3, .cells #[.int .i64 0, .int .i64 1] 3, .cells #[.int .i64 1, .int .i64 1] 3, .cells #[.slice (some ⟨W22.heap.size + 1 + 1, 0, none⟩) 2 2, .slice (some ⟨W22.heap.size + 1 + 1 + 1, 0, none⟩) 2 2] 22, .cells #[.slice (some ⟨W22.heap.size + 1 + 1 + 1 + 1, 0, none⟩) 2 2] 59] i o h
 have hb := allocs_below W22 [.cells #[.int .i64 1, .int .i64 0] 3, .cells #[.int .i64 0, .int .i64 1] 3, .cells #[.int .i64 0, .int .i64 1] 3, .cells #[.int .i64 1, .int .i64 1] 3, .cells #[.slice (some ⟨W22.heap.size + 1 + 1, 0, none⟩) 2 2, .slice (some ⟨W22.heap.size + 1 + 1 + 1, 0, none⟩) 2 2] 22, .cells #[.slice (some ⟨W22.heap.size + 1 + 1 + 1 + 1, 0, none⟩) 2 2] 59]
 have rs := (show RdA _ _ _ _ fibA from lit_two (hg 0 _ rfl) (hg 1 _ rfl) (hg 2 _ rfl) (hg 3 _ rfl) (hg 4 _ rfl) (hg 5 _ rfl))
 simp only [allocs, List.foldl] at hb rs
 clear hg
 replace rs := Lib.hid rs
 replace hb := Lib.hid hb
 obtain ⟨q0, q1, q2, q3⟩ := cells4 k7.out.now.1
 go_wp2_with fail
 clear q0 q1 q2 q3
 generalize ((((((W22.alloc (.cells #[.int .i64 1, .int .i64 0] 3)).alloc (.cells #[.int .i64 0, .int .i64 1] 3)).alloc (.cells #[.int .i64 0, .int .i64 1] 3)).alloc (.cells #[.int .i64 1, .int .i64 1] 3)).alloc (.cells #[.slice (some ⟨W22.heap.size + 1 + 1, 0, none⟩) 2 2, .slice (some ⟨W22.heap.size + 1 + 1 + 1, 0, none⟩) 2 2] 22)).alloc (.cells #[.slice (some ⟨W22.heap.size + 1 + 1 + 1 + 1, 0, none⟩) 2 2] 59)) = X23 at *
 replace hb := hb.out
 replace hB := Lib.hid (Below.then_ hB.out hb)
 replace k7 := Lib.hid (k7.out.next hb)
 replace k13 := Lib.hid (k13.out.next hb)
 clear hb
 refine (aw17_equal fibA _ _ _ _ _ _ _ k7.out.now.2 rs.out).mono ?_; rintro ev W24 ⟨rfl, hb⟩
 replace hB := Lib.hid (Below.then_ hB.out hb)
 replace k7 := Lib.hid (k7.out.next hb)
 replace k13 := Lib.hid (k13.out.next hb)
 clear hb
 clear rs k7
 have hg := fun i o h => allocs_get W24 [.cells #[.int .i64 1] 3, .cells #[.int .i64 3] 3, .cells #[.int .i64 2] 3, .cells #[.slice (some ⟨W24.heap.size + 1 + 1, 0, none⟩) 1 1] 22, .cells #[.int .i64 3] 3, .cells #[.slice (some ⟨W24.heap.size + 1 + 1 + 1 + 1, 0, none⟩) 1 1] 22, .cells #[.slice (some ⟨W24.heap.size + 1 + 1 + 1, 0, none⟩) 1 1, .slice (some ⟨W24.heap.size + 1 + 1 + 1 + 1 + 1, 0, none⟩) 1 1] 59] i o h
 have hb := allocs_below W24 [.cells #[.int .i64 1] 3, .cells #[.int .i64 3] 3, .cells #[.int .i64 2] 3, .cells #[.slice (some ⟨W24.heap.size + 1 + 1, 0, none⟩) 1 1] 22, .cells #[.int .i64 3] 3, .cells #[.slice (some ⟨W24.heap.size + 1 + 1 + 1 + 1, 0, none⟩) 1 1] 22, .cells #[.slice (some ⟨W24.heap.size + 1 + 1 + 1, 0, none⟩) 1 1, .slice (some ⟨W24.heap.size + 1 + 1 + 1 + 1 + 1, 0, none⟩) 1 1] 59]
 have rs := (show RdA _ _ _ _ leftV from lit_one (hg 0 _ rfl) (hg 1 _ rfl) (hg 2 _ rfl) (hg 3 _ rfl) (hg 4 _ rfl) (hg 5 _ rfl) (hg 6 _ rfl))
 simp only [allocs, List.foldl] at hb rs
 clear hg
 replace rs := Lib.hid rs
 replace hb := Lib.hid hb
 obtain ⟨q0, q1, q2, q3⟩ := cells4 k13.out.now.1
 go_wp2_with fail
 clear q0 q1 q2 q3
 generalize (((((((W24.alloc (.cells #[.int .i64 1] 3)).alloc (.cells #[.int .i64 3] 3)).alloc (.cells #[.int .i64 2] 3)).alloc (.cells #[.slice (some ⟨W24.heap.size + 1 + 1, 0, none⟩) 1 1] 22)).alloc (.cells #[.int .i64 3] 3)).alloc (.cells #[.slice (some ⟨W24.heap.size + 1 + 1 + 1 + 1, 0, none⟩) 1 1] 22)).alloc (.cells #[.slice (some ⟨W24.heap.size + 1 + 1 + 1, 0, none⟩) 1 1, .slice (some ⟨W24.heap.size + 1 + 1 + 1 + 1 + 1, 0, none⟩) 1 1] 59)) = X25 at *
 replace hb := hb.out
 replace hB := Lib.hid (Below.then_ hB.out hb)
 replace k13 := Lib.hid (k13.out.next hb)
 clear hb
 refine (aw17_equal leftV _ _ _ _ _ _ _ k13.out.now.2 rs.out).mono ?_; rintro ev W26 ⟨rfl, hb⟩
 replace hB := Lib.hid (Below.then_ hB.out hb)
 replace k13 := Lib.hid (k13.out.next hb)
 clear hb
 clear rs k13
 go_wp2
 go_ret
 exact ⟨rfl, hB.out⟩
end Go.Proofs.YtlpldfocljnpnaaDoor
namespace Go.Proofs.YtlpldfocljnpnaaDoor
open Go.RowKit Go.Shelf
theorem isRes_get (xs : List Int) : isRes xs = true ↔ ∀ j, j < xs.length → isN (xs.getD j 0) = true := by
 have h := not_isRes xs
 constructor
 ·intro e j hj
  rw [e] at h
  have h2 := h.symm
  simp only [Bool.not_true, List.any_eq_false, List.mem_range] at h2
  have := h2 j hj
  simpa using this
 ·intro e
  cases er : isRes xs with
  | true => rfl
  | false =>
   rw [er] at h
   simp only [Bool.not_false] at h
   obtain ⟨j, hj, h3⟩ := List.any_eq_true.1 h.symm
   rw [e j (List.mem_range.1 hj)] at h3
   cases h3
theorem residues17_any (xs : List Int) (v : Value) (w : World) (hx : RdI w v xs) :
  Calls Tryd.prog 73 #[v] w fun e w' => e = .returned (.bool (isRes xs)) ∧ Below w.heap.size w w' := by
 obtain ⟨A, c, rfl, h1, h2, h3⟩ := hx.open_
 replace h3 := Lib.hid h3
 have hR := Lib.hid (isRes_get xs)
 clear hx
 obtain ⟨n, hn⟩ : ∃ n, xs.length = n := ⟨_, rfl⟩
 rw [hn] at h3 h1 h2 hR ⊢
 replace hn := Lib.hid hn
 go_enter Tryd.func73, Tryd.ntmps73
 go_wp2
 go_loopw [7] (fun i wr => ∃ k : Nat, k ≤ n ∧ i = .int .i64 k ∧ Hid (Below w.heap.size w wr) ∧ Hid (∀ j, j < k → isN (xs.getD j 0) = true)) (fun i _ => n - (intOf i).toNat)
 case atStart => exact ⟨0, Nat.zero_le _, rfl, Lib.hid (Below.refl _ _), Lib.hid (fun j hj => by omega)⟩
 case round =>
  obtain ⟨k, hk, rfl, hB, hE⟩ := hrel
  by_cases hlt : k < n
  ·obtain ⟨b0, off, rfl, hc⟩ := h3.out k hlt
   replace hc := (hB.out.cell (p := ⟨b0, off + k, none⟩) (World.block_lt_of_cell? w _ hc)).trans hc
   have k1 : (k : Int) < (n : Int) := by omega
   have k0 : (0 : Int) ≤ (k : Int) := by omega
   have hN : Hid (isN (xs.getD k 0) = (decide (0 ≤ xs.getD k 0) && decide (xs.getD k 0 < 65521))) := Lib.hid rfl
   have hE2 : Hid (isN (xs.getD k 0) = true → ∀ j, j < k + 1 → isN (xs.getD j 0) = true) := Lib.hid (fun h j hj => by
    by_cases e : j = k
    ·rw [e]; exact h
    ·exact hE.out j (by omega))
   have hF : Hid (isN (xs.getD k 0) = false → isRes xs = false) := Lib.hid (fun h => by
    cases e : isRes xs with
    | false => rfl
    | true => rw [hR.out.1 e k hlt] at h; cases h)
   generalize xs.getD k 0 = x at hc hN hE2 hF
   by_cases a1 : x < 0
   ·have hr := Lib.hid (hF.out (by rw [hN.out]; simp; omega))
    go_wp2
    go_ret
    exact ⟨by rw [hr.out]; rfl, hB.out⟩
   by_cases a2 : 65521 ≤ x
   ·have hr := Lib.hid (hF.out (by rw [hN.out]; simp; omega))
    go_wp2
    go_ret
    exact ⟨by rw [hr.out]; rfl, hB.out⟩
   have hr := Lib.hid (hE2.out (by rw [hN.out]; simp; omega))
   go_wp2
   go_roundw
   case rel => exact ⟨k + 1, by omega, by go_num, hB, hr⟩
   case measure => simp [intOf]; omega
  ·obtain rfl : k = n := by omega
   have hr := Lib.hid (hR.out.2 hE.out)
   go_wp2
   go_ret
   exact ⟨by rw [hr.out]; rfl, hB.out⟩
def dotQ (a b : List Int) (q : Nat) : Int := psum (fun i => a.getD i 0 * b.getD i 0) q % 65521
theorem dotQ_succ (a b : List Int) (q : Nat) : dotQ a b (q + 1) = (dotQ a b q + a.getD q 0 * b.getD q 0) % 65521 := by
 unfold dotQ; rw [psum, Int.emod_add_emod]
theorem dotQ_bd (a b : List Int) (q : Nat) : 0 ≤ dotQ a b q ∧ dotQ a b q < 65521 := ⟨Int.emod_nonneg _ (by decide), Int.emod_lt_of_pos _ (by decide)⟩
theorem dot17_any (a b : List Int) (va vb : Value) (w : World) (ra : RdI w va a) (rb : RdI w vb b) (hl : a.length ≤ b.length) (h1000 : a.length ≤ 1000000) (ba : ∀ u ∈ a, 0 ≤ u ∧ u < 65521) (bb : ∀ u ∈ b, 0 ≤ u ∧ u < 65521) :
  Calls Tryd.prog 58 #[va, vb] w fun e w' => e = .returned (.int .i64 (dotR a b)) ∧ Below w.heap.size w w' := by
 obtain ⟨A, c, rfl, h1, h2, h3⟩ := ra.open_
 obtain ⟨B, d, rfl, g1, g2, g3⟩ := rb.open_
 have hE : Hid (dotR a b = dotQ a b a.length) := Lib.hid rfl
 have hs := Lib.hid (dotQ_succ a b)
 have hbd := Lib.hid (dotQ_bd a b)
 have h0 : Hid (dotQ a b 0 = 0) := Lib.hid rfl
 have na := Lib.hid (getD_bd ba)
 have nb := Lib.hid (getD_bd bb)
 replace h3 := Lib.hid h3
 replace g3 := Lib.hid g3
 clear ra rb ba bb
 generalize b.length = m at *
 generalize a.length = n at *
 generalize dotR a b = R at *
 generalize dotQ a b = dq at *
 go_enter Tryd.func58, Tryd.ntmps58
 go_wp2
 go_loopw [5, 6] (fun s i wr => ∃ q : Nat, q ≤ n ∧ i = .int .i64 q ∧ s = .int .i64 (dq q) ∧ Hid (Below w.heap.size w wr)) (fun _ i _ => n - (intOf i).toNat)
 case atStart => exact ⟨0, Nat.zero_le _, rfl, by rw [h0.out], Lib.hid (Below.refl _ _)⟩
 case round =>
  obtain ⟨q, hq, rfl, rfl, hB⟩ := hrel
  have ⟨p1, p2⟩ := hbd.out q
  by_cases hlt : q < n
  ·obtain ⟨b2, off2, rfl, hc2⟩ := h3.out q (by omega)
   obtain ⟨b3, off3, rfl, hc3⟩ := g3.out q (by omega)
   replace hc2 := (hB.out.cell (p := ⟨b2, off2 + q, none⟩) (World.block_lt_of_cell? w _ hc2)).trans hc2
   replace hc3 := (hB.out.cell (p := ⟨b3, off3 + q, none⟩) (World.block_lt_of_cell? w _ hc3)).trans hc3
   have n1 := na.out q
   have n2 := nb.out q
   have hs1 := Lib.hid (hs.out q)
   have ⟨m1, m2⟩ := mul_bd n1.1 n1.2 n2.1 n2.2
   generalize dq q = S at p1 p2 hs1 ⊢
   generalize a.getD q 0 = x at n1 m1 m2 hc2 hs1
   generalize b.getD q 0 = y at n2 m1 m2 hc3 hs1
   have q1 : (q : Int) < (n : Int) := by omega
   have q2 : (q : Int) < (m : Int) := by omega
   have q0 : (0 : Int) ≤ (q : Int) := by omega
   have hBd := Lib.hid hB.out.drew
   go_wp2
   go_still_tail 11, (by kernel_rfl)
   change wpList _ _ _ _ _ wr.drew
   go_wp2
   go_roundw
   case rel => exact ⟨q + 1, by omega, by go_num, congrArg (Value.int .i64) hs1.out.symm, hBd⟩
   case measure => simp [intOf]; omega
  ·obtain rfl : q = n := by omega
   have hr := Lib.hid hE.out.symm
   go_wp2
   go_ret
   exact ⟨by rw [← hr.out]; rfl, hB.out⟩
theorem nothing17_any (n m : Nat) (w : World) (hn : n ≤ 1000000) (hm : m ≤ 1000000) :
  Calls Tryd.prog 57 #[.int .i64 n, .int .i64 m] w fun e w' => (∃ v, e = .returned v ∧ OwnM w' w.heap.size v (mat (fun _ _ => 0) n m)) ∧ Below w.heap.size w w' := by
 obtain ⟨i0, hi, hz0, hz1, hz2⟩ := info_parts infoR
 have hmk := run_make_row' (P := Tryd.prog) 22 3 _ _ Tryd.underlying22 infoI rfl .i64 .i64 m (by omega) (by omega)
 go_enter Tryd.func57, Tryd.ntmps57
 go_wp2
 go_loopw [5, 6] (fun o i wr => ∃ k : Nat, k ≤ n ∧ i = .int .i64 k ∧ Hid (Below w.heap.size w wr) ∧ Hid (∃ vs, OwnMv wr w.heap.size o (mat (fun _ _ => 0) k m) vs)) (fun _ i _ => n - (intOf i).toNat)
 case atStart => exact ⟨0, Nat.zero_le _, rfl, Lib.hid (Below.refl _ _), Lib.hid ⟨[], OwnMv_nil _ _⟩⟩
 case round =>
  obtain ⟨k, hk, rfl, hB, hM⟩ := hrel
  by_cases hlt : k < n
  ·obtain ⟨vs, hMv⟩ := hM.out
   have hvl := hMv.len
   rw [mat_len] at hvl
   obtain ⟨A1, c1, rfl⟩ := own_shape hMv.outer
   rw [mat_len] at hMv ⊢
   replace hMv := Lib.hid hMv
   have hvl2 := Lib.hid hvl
   have hBs := hB.out.size
   clear hM hvl
   have k1 : (k : Int) < (n : Int) := by omega
   have k0 : (0 : Int) ≤ (k : Int) := by omega
   have hb2 : Hid (Below wr.heap.size wr (wr.alloc (.cells (madeCells #[.int .i64 0] m) 3))) := Lib.hid ((Below.refl _ _).alloc (Nat.le_refl _) _)
   have ho2 := Lib.hid (OwnI_made wr wr.heap.size m (Nat.le_refl _) (by unfold maxLen; omega))
   have hs2 : (wr.alloc (.cells (madeCells #[.int .i64 0] m) 3)).heap.size = wr.heap.size + 1 := World.size_alloc _ _
   have hw3 : Hid (((wr.alloc (.cells (madeCells #[.int .i64 0] m) 3)).alloc (.cells #[.slice (some ⟨wr.heap.size, 0, none⟩) m m] 22)).ownsRow w.heap.size 22 1 (.slice A1 k c1) k vs) := Lib.hid (by
    have := (hMv.out.kept (Below.then_ hb2.out ((Below.refl _ (wr.alloc (.cells (madeCells #[.int .i64 0] m) 3))).alloc (Nat.le_refl _) (.cells #[.slice (some ⟨wr.heap.size, 0, none⟩) m m] 22)))).outer
    rwa [mat_len] at this)
   have hnw : Hid (∀ j u, [Value.slice (some ⟨wr.heap.size, 0, none⟩) m m][j]? = some u → ((wr.alloc (.cells (madeCells #[.int .i64 0] m) 3)).alloc (.cells #[.slice (some ⟨wr.heap.size, 0, none⟩) m m] 22)).cell? ((⟨wr.heap.size + 1, 0, none⟩ : Addr).add j) = some u) := Lib.hid (by
    have := cell_one_new (wr.alloc (.cells (madeCells #[.int .i64 0] m) 3)) (.slice (some ⟨wr.heap.size, 0, none⟩) m m) 22
    rwa [hs2] at this)
   have hbs : w.heap.size ≤ ((wr.alloc (.cells (madeCells #[.int .i64 0] m) 3)).alloc (.cells #[.slice (some ⟨wr.heap.size, 0, none⟩) m m] 22)).heap.size := by rw [World.size_alloc, hs2]; omega
   replace hbs := Lib.hid hbs
   go_wp2_with (at_builtin; (refine wpList_append_own_at _ rfl _ _ 59 rfl w.heap.size 22 i0 _ 1 24 Tryd.underlying59 hi hz0 hz1 hz2 rfl (by omega) (.slice A1 k c1) k vs rfl hw3.out ⟨wr.heap.size + 1, 0, none⟩ 1 1 [.slice (some ⟨wr.heap.size, 0, none⟩) m m] rfl rfl hnw.out (by simp [Value.oneCell']) (by unfold maxLen; omega) (by omega) hbs.out ?_); intro v' w1 hown1 hgrow _ _)
   replace hown1 := Lib.hid hown1
   replace hgrow := Lib.hid hgrow
   go_wp2
   go_roundw
   case rel =>
    obtain ⟨g1, g2⟩ := snoc_round hB.out hMv.out hb2.out ho2.out (by rw [mat_len]) hown1.out hgrow.out
    exact ⟨k + 1, by omega, by go_num, Lib.hid g1, Lib.hid (by rw [zeros_snoc] at g2; exact g2)⟩
   case measure => simp [intOf]; omega
  ·obtain rfl : n = k := by omega
   go_wp2
   go_ret
   obtain ⟨vs, hMv⟩ := hM.out
   exact ⟨⟨_, rfl, hMv.m⟩, hB.out⟩
end Go.Proofs.YtlpldfocljnpnaaDoor
namespace Go.Proofs.YtlpldfocljnpnaaDoor
open Go.RowKit Go.Shelf
theorem along17_any (n : Nat) (times : List Int) (rows : List (List Int)) (vt vr : Value) (w : World) (hn : n ≤ 1000000) (rt : RdI w vt times) (rr : RdM w vr rows) (hl : rows.length = n) (hl2 : n ≤ times.length) (hm : ∀ r ∈ rows, r.length = n ∧ ∀ u ∈ r, 0 ≤ u ∧ u < 65521) (bt : ∀ u ∈ times, 0 ≤ u ∧ u < 65521) :
  Calls Tryd.prog 59 #[vt, vr] w fun e w' => (∃ v, e = .returned v ∧ OwnI w' w.heap.size v (plusL n times rows)) ∧ Below w.heap.size w w' := by
 obtain ⟨A, c, rfl, h1, h2, h3⟩ := rt.open_
 obtain ⟨B, d, rfl, g1, g2, g3⟩ := rr.open_
 have hmk := run_make_row' (P := Tryd.prog) 22 3 _ _ Tryd.underlying22 infoI rfl .i64 .i64 n (by omega) (by omega)
 have h0 := OwnI_made w w.heap.size n (Nat.le_refl _) (by unfold maxLen; omega)
 rw [← plP_zero n times rows] at h0
 replace h0 := Lib.hid h0
 have hB0 : Below w.heap.size w (w.alloc (.cells (madeCells #[.int .i64 0] n) 3)) := (Below.refl _ _).alloc (Nat.le_refl _) _
 have na := Lib.hid (getD_bd bt)
 have hrow : ∀ k, k < n → (rows.getD k []).length = n ∧ ∀ u ∈ rows.getD k [], 0 ≤ u ∧ u < 65521 := fun k hk => by
  rw [List.getD_eq_getElem?_getD, List.getElem?_eq_getElem (by omega)]; exact hm _ (List.getElem_mem _)
 have hend : Hid (plP n times rows n 0 = plusL n times rows) := Lib.hid (by rw [← hl]; rfl)
 replace hrow := Lib.hid hrow
 rw [hl] at g1 g2 g3 ⊢
 replace h3 := Lib.hid h3
 replace g3 := Lib.hid g3
 clear rt rr hm bt hl
 obtain ⟨m, hm⟩ : ∃ m, times.length = m := ⟨_, rfl⟩
 rw [hm] at h1 h2 h3 hl2 ⊢
 clear hm
 go_enter Tryd.func59, Tryd.ntmps59
 go_wp2
 generalize w.alloc (.cells (madeCells #[.int .i64 0] n) 3) = w1 at h0 hB0 ⊢
 go_loopw [6] (fun k wr => ∃ q : Nat, q ≤ n ∧ k = .int .i64 q ∧ Hid (Below w.heap.size w wr) ∧ Hid (OwnI wr w.heap.size (.slice (some ⟨w.heap.size, 0, none⟩) n n) (plP n times rows q 0))) (fun k _ => n - (intOf k).toNat)
 case atStart => exact ⟨0, Nat.zero_le _, rfl, Lib.hid hB0, h0⟩
 case round =>
  obtain ⟨q, hq, rfl, hB, hM⟩ := hrel
  by_cases hlt : q < n
  ·obtain ⟨b2, off2, u2, rfl, hc2, hu2⟩ := g3.out q hlt
   obtain ⟨A4, c4, rfl, e1, e2, e3⟩ := hu2.open_
   obtain ⟨hrl, hrb⟩ := hrow.out q hlt
   have hpr := Lib.hid (@plP_row n times rows q _ rfl)
   rw [hrl] at hpr e1 e2 e3 hc2
   obtain ⟨b5, off5, rfl, hct⟩ := h3.out q (by omega)
   have nt := na.out q
   have q1 : (q : Int) < (n : Int) := by omega
   have q2 : (q : Int) < (m : Int) := by omega
   have q0 : (0 : Int) ≤ (q : Int) := by omega
   have hrb' := Lib.hid (getD_bd hrb)
   have hsuc := Lib.hid (fun j => plE_succ times rows j q)
   clear hrb hu2 hrl
   replace e3 := Lib.hid e3
   generalize times.getD q 0 = tq at *
   generalize rows.getD q [] = row at *
   go_wp2
   go_loopw [7] (fun i wr => ∃ k : Nat, k ≤ n ∧ i = .int .i64 k ∧ Hid (Below w.heap.size w wr) ∧ Hid (OwnI wr w.heap.size (.slice (some ⟨w.heap.size, 0, none⟩) n n) (plP n times rows q k))) (fun i _ => n - (intOf i).toNat)
   case atStart => exact ⟨0, Nat.zero_le _, rfl, hB, hM⟩
   case round =>
    obtain ⟨k, hk, rfl, hB, hM⟩ := hrel
    by_cases hkm : k < n
    ·obtain ⟨b4, off4, rfl, hc4⟩ := e3.out k hkm
     replace hc4 := (hB.out.cell (p := ⟨b4, off4 + k, none⟩) (World.block_lt_of_cell? w _ hc4)).trans hc4
     replace hct := (hB.out.cell (p := ⟨b5, off5 + q, none⟩) (World.block_lt_of_cell? w _ hct)).trans hct
     replace hc2 := (hB.out.cell (p := ⟨b2, off2 + q, none⟩) (World.block_lt_of_cell? w _ hc2)).trans hc2
     have nv := hrb'.out k
     obtain ⟨hc, hf⟩ := hM.out.num (k := k) (by rw [plP_len]; omega)
     rw [plP_get times rows (show k < n by omega), if_neg (Nat.lt_irrefl k)] at hc
     have hset := plP_set (n := n) times rows (k := q) (i := k)
     rw [hsuc.out k] at hset
     replace hset := Lib.hid hset
     have hbe := plE_bd times rows k q
     generalize row.getD k 0 = v at *
     generalize plE times rows k q = o at *
     have ⟨m1, m2⟩ := mul_bd nt.1 nt.2 nv.1 nv.2
     have k1 : (k : Int) < (n : Int) := by omega
     have k0 : (0 : Int) ≤ (k : Int) := by omega
     have hup2 := Lib.hid (fun (wd : World) (h : OwnI wd w.heap.size (.slice (some ⟨w.heap.size, 0, none⟩) n n) (plP n times rows q k)) => h.put k ((o + tq * v) % 65521))
     have hMd := Lib.hid (hM.out.below (Below.refl wr.heap.size wr).drew)
     have hBd := Lib.hid (hB.out.drew)
     go_wp2
     go_still_tail 21, (by kernel_rfl)
     change wpList _ _ _ _ _ wr.drew
     replace hc : wr.drew.cell? _ = _ := hc
     replace hf : wr.drew.frozen? _ = _ := hf
     replace hct : wr.drew.cell? _ = _ := hct
     replace hc2 : wr.drew.cell? _ = _ := hc2
     replace hc4 : wr.drew.cell? _ = _ := hc4
     clear hM hB
     have hput := Lib.hid (hup2.out _ hMd.out)
     clear hMd
     generalize wr.drew = wd at hc hf hput hBd hct hc2 hc4 ⊢
     go_wp2
     go_roundw
     case rel => exact ⟨k + 1, by omega, by go_num, Lib.hid (hBd.out.setCell (Nat.le_refl _) _), Lib.hid (by have := hput.out; rw [hset.out] at this; exact this)⟩
     case measure => simp [intOf]; omega
    ·obtain rfl : k = n := by omega
     go_wp2
     go_roundw
     case rel => exact ⟨q + 1, by omega, by go_num, hB, by rw [hpr.out] at hM; exact hM⟩
     case measure => simp [intOf]; omega
  ·obtain rfl : q = n := by omega
   go_wp2
   go_ret
   exact ⟨⟨_, rfl, by have := hM.out; rw [hend.out] at this; exact this⟩, hB.out⟩
end Go.Proofs.YtlpldfocljnpnaaDoor
namespace Go.Proofs.YtlpldfocljnpnaaDoor
open Go.RowKit Go.Shelf
theorem rowW_take17 (a : Aut) (w : List Nat) {q : Nat} (hq : q < w.length) : rowW a (w.take (q + 1)) = alongL a.start.length (rowW a (w.take q)) (a.steps.getD (w.getD q 0) []) := by
 rw [List.take_succ_eq_append_getElem hq, rowW_snoc, List.getD_eq_getElem?_getD (l := w), List.getElem?_eq_getElem hq]; rfl
theorem wordN_get {ks : ByteArray} {q : Nat} (h : q < ks.size) : (wordN ks).getD q 0 = bt ks q - 97 := by
 unfold wordN
 rw [getD_map_range _ _ h]
theorem weight17_any {a : Aut} {k n : Nat} (ok : okA a k n) (hn : n ≤ 999) (ks : ByteArray) (hk : ∀ i, i < ks.size → 97 ≤ bt ks i ∧ bt ks i - 97 < k) (hks : ks.size ≤ 1000000) (s e t : Value) (w : World) (ra : RdA w s e t a) :
  Calls Tryd.prog 56 #[.agg #[.int .i64 a.letters, s, e, t], .string ks] w fun r w' => r = .returned (.int .i64 (wtW a (wordN ks))) ∧ Below w.heap.size w w' := by
 obtain ⟨At, ct, rfl, tl, tc, t3⟩ := RdS.open_ ([] : List (List Int)) ra.steps
 obtain ⟨hB, x0, hz⟩ := box4 w (.int .i64 a.letters) s e (.slice At a.steps.length ct) 25
 have hs0 := Lib.hid ra.start
 have hal := Lib.hid (fun (q : Nat) (hq : q < ks.size) (o v : Value) (W : World) (h1 : RdI W o (rowW a ((wordN ks).take q))) (h2 : RdM W v (a.steps.getD (bt ks q - 97) [])) => by
  have hm := ok.row_ok (hk q hq).2
  have := along17_any n (rowW a ((wordN ks).take q)) (a.steps.getD (bt ks q - 97) []) o v W (by omega) h1 h2 hm.1 (by rw [rowW_len ok]; exact Nat.le_refl _) hm.2 (rowW_bd ok _)
  have e : plusL n (rowW a ((wordN ks).take q)) (a.steps.getD (bt ks q - 97) []) = rowW a ((wordN ks).take (q + 1)) := by
   rw [rowW_take17 a (wordN ks) (by simp [wordN]; exact hq), wordN_get hq, ok.start.1]; rfl
  rw [e] at this
  exact this)
 have hcl : ∀ q, q < ks.size → Hid (∀ W, Below w.heap.size w W → ∃ v, (∃ b off, At = some ⟨b, off, none⟩ ∧ W.cell? ⟨b, off + (bt ks q - 97), none⟩ = some v) ∧ RdM W v (a.steps.getD (bt ks q - 97) [])) := fun q hq => Lib.hid fun W hW => by
  obtain ⟨b, off, u, e1, e2, e3⟩ := t3 (bt ks q - 97) (by rw [ok.steps]; exact (hk q hq).2)
  exact ⟨u, ⟨b, off, e1, (hW.cell (p := ⟨b, off + (bt ks q - 97), none⟩) (World.block_lt_of_cell? w _ e2)).trans e2⟩, e3.below hW (Nat.le_refl _)⟩
 have hcell := Lib.hid hcl
 have hkk := Lib.hid hk
 have hdt := Lib.hid (fun (o : Value) (W : World) (hW : Below w.heap.size w W) (h1 : RdI W o (rowW a ((wordN ks).take ks.size))) => dot17_any _ a.end_ o e W h1 (ra.end_.below hW (Nat.le_refl _)) (by rw [rowW_len ok, ok.end_.1]; exact Nat.le_refl _) (by rw [rowW_len ok]; omega) (rowW_bd ok _) ok.end_.2)
 have hend : Hid (dotR (rowW a ((wordN ks).take ks.size)) a.end_ = wtW a (wordN ks)) := Lib.hid (by rw [dotR_eq, List.take_of_length_le (by simp [wordN])]; rfl)
 have hstart : Hid (rowW a ((wordN ks).take 0) = a.start) := Lib.hid rfl
 have hown := Lib.hid (fun q (W : World) (v : Value) (B : Nat) (h : OwnI W B v (rowW a ((wordN ks).take q))) => h.rd (by rw [rowW_len ok]; omega))
 have hst := Lib.hid ok.steps
 rw [← hstart.out] at hs0
 clear ra t3 hcl hk tl tc ok
 generalize a.steps.length = K at *
 generalize a.letters = L at *
 generalize wtW a (wordN ks) = R at *
 go_enter Tryd.func56, Tryd.ntmps56
 obtain ⟨p0, p1, p2, p3⟩ := cells4 x0
 go_wp2_with fail
 clear p0 p1 p2 p3
 generalize (w.alloc (.cells #[.int .i64 L, s, e, .slice At K ct] 25)) = X at *
 have hs1 := Lib.hid (hs0.out.below hB (Nat.le_refl _))
 have hbx := Lib.hid (fun W (hW : Below X.heap.size X W) => (⟨heap_keep x0 hW, hB.trans (hW.mono hB.size)⟩ : _ ∧ Below w.heap.size w W))
 clear x0 hB hs0
 go_loopw [5, 6] (fun o i wr => ∃ q : Nat, q ≤ ks.size ∧ i = .int .i64 q ∧ Hid (Below X.heap.size X wr) ∧ Hid (RdI wr o (rowW a ((wordN ks).take q)))) (fun _ i _ => ks.size - (intOf i).toNat)
 case atStart => exact ⟨0, Nat.zero_le _, rfl, Lib.hid (Below.refl _ _), hs1⟩
 case round =>
  obtain ⟨q, hq, rfl, hBr, hO⟩ := hrel
  obtain ⟨y0, hwr⟩ := hbx.out _ hBr.out
  obtain ⟨p0, p1, p2, p3⟩ := cells4 y0
  replace y0 := Lib.hid y0
  replace hwr := Lib.hid hwr
  by_cases hlt : q < ks.size
  ·have hbt := bt_get hlt
   have hck := Lib.hid ((hcell.out q hlt).out)
   have ⟨b97, bk⟩ := hkk.out q hlt
   have hal1 := Lib.hid (hal.out q hlt)
   obtain ⟨x, hx⟩ : ∃ x, bt ks q - 97 = x := ⟨_, rfl⟩
   rw [hx] at hck hal1
   have bk2 : x < K := by rw [hst.out, ← hx]; exact bk
   have hgx : ks[q].toNat = x + 97 := by rw [← hbt]; omega
   have hxb : x + 97 < 256 := by rw [← hgx]; exact UInt8.toNat_lt _
   obtain ⟨b, off, eAt⟩ : ∃ b off, At = some ⟨b, off, none⟩ := by
    obtain ⟨v, ⟨b, off, e1, -⟩, -⟩ := hck.out _ hwr.out
    exact ⟨b, off, e1⟩
   subst eAt
   have hck2 := Lib.hid (fun W (hW : Below X.heap.size X W) => (by
    obtain ⟨v, ⟨b', off', e1, e2⟩, e3⟩ := hck.out _ (hbx.out W hW).2
    simp only [Option.some.injEq, Addr.mk.injEq, and_true] at e1
    obtain ⟨rfl, rfl⟩ := e1
    exact ⟨v, e2, e3⟩ : ∃ v, W.cell? ⟨b, off + x, none⟩ = some v ∧ RdM W v (a.steps.getD x [])))
   obtain ⟨v, hv, -⟩ := hck2.out _ hBr.out
   have hvR : Hid (∀ W, Below wr.heap.size wr W → W.cell? ⟨b, off + x, none⟩ = some v ∧ RdM W v (a.steps.getD x [])) := Lib.hid (fun W hW => by
    obtain ⟨v', h1, h2⟩ := hck2.out _ (hBr.out.trans (hW.mono hBr.out.size))
    have h3 := (hW.cell (p := ⟨b, off + x, none⟩) (World.block_lt_of_cell? wr _ hv)).trans hv
    rw [h1] at h3
    cases h3
    exact ⟨h1, h2⟩)
   have hb6 : Hid (Below wr.heap.size wr wr) := Lib.hid (Below.refl _ _)
   have y2 : (q : Int) < (ks.size : Int) := by omega
   have y0' : (0 : Int) ≤ (q : Int) := by omega
   have x1 : (x : Int) < (K : Int) := by omega
   have x00 : (0 : Int) ≤ (x : Int) := by omega
   have w1 : IntKind.u8.wrap (((x + 97 : Nat) : Int) - 97) = (x : Int) := by rw [IntKind.wrap_u8]; omega
   have w3 : IntKind.u8.wrap (x : Int) = (x : Int) := by rw [IntKind.wrap_u8]; omega
   have w2 : IntKind.i64.wrap (x : Int) = (x : Int) := IntWalk.i64_in _ ⟨by omega, by omega⟩
   go_wp2
   clear p0 p1 p2 p3
   refine D_begin (fun W => Below wr.heap.size wr W) (fun _ => True) 99 (by kernel_rfl) ?_
   change wpAnyD _ _ _ _ _ _ _ _ _ _ wr.drew
   simp only [List.size_toArray, List.length_cons, List.length_nil, Nat.reduceAdd, Array.replicate_succ, Array.replicate_zero, List.push_toArray, List.append_toArray, List.nil_append, List.cons_append]
   have hD17 : Below wr.heap.size wr wr.drew := (Below.refl _ _).drew
   replace hb6 := Lib.hid (Below.then_ hb6.out hD17)
   have z_D17 := hD17.size; clear hD17
   generalize wr.drew = D17 at *
   refine Dt 0 rfl ?_ hb6.out (fun _ => trivial) ?_ ?_
   rotate_left; · intro w1 hw1; obtain ⟨y0, -⟩ := hbx.out _ (hBr.out.trans (hw1.mono hBr.out.size)); obtain ⟨p0, p1, p2, p3⟩ := cells4 y0; obtain ⟨z0, -⟩ := hvR.out _ hw1; go_simp; try with_reducible rfl
   try simp only [Act.put, s_1, s_2, s_3, s_4, s_5, s_6]
   refine Dt 1 rfl ?_ hb6.out (fun _ => trivial) ?_ ?_
   rotate_left; · intro w1 hw1; obtain ⟨y0, -⟩ := hbx.out _ (hBr.out.trans (hw1.mono hBr.out.size)); obtain ⟨p0, p1, p2, p3⟩ := cells4 y0; obtain ⟨z0, -⟩ := hvR.out _ hw1; go_simp; try with_reducible rfl
   try simp only [Act.put, s_1, s_2, s_3, s_4, s_5, s_6]
   refine Dt 3 rfl ?_ hb6.out (fun _ => trivial) ?_ ?_
   rotate_left; · intro w1 hw1; obtain ⟨y0, -⟩ := hbx.out _ (hBr.out.trans (hw1.mono hBr.out.size)); obtain ⟨p0, p1, p2, p3⟩ := cells4 y0; obtain ⟨z0, -⟩ := hvR.out _ hw1; go_simp; try with_reducible rfl
   try simp only [Act.put, s_1, s_2, s_3, s_4, s_5, s_6]
   refine Dt 4 rfl ?_ hb6.out (fun _ => trivial) ?_ ?_
   rotate_left; · intro w1 hw1; obtain ⟨y0, -⟩ := hbx.out _ (hBr.out.trans (hw1.mono hBr.out.size)); obtain ⟨p0, p1, p2, p3⟩ := cells4 y0; obtain ⟨z0, -⟩ := hvR.out _ hw1; go_simp; try with_reducible rfl
   try simp only [Act.put, s_1, s_2, s_3, s_4, s_5, s_6]
   refine Dt 2 rfl ?_ hb6.out (fun _ => trivial) ?_ ?_
   rotate_left; · intro w1 hw1; obtain ⟨y0, -⟩ := hbx.out _ (hBr.out.trans (hw1.mono hBr.out.size)); obtain ⟨p0, p1, p2, p3⟩ := cells4 y0; obtain ⟨z0, -⟩ := hvR.out _ hw1; go_simp; try with_reducible rfl
   try simp only [Act.put, s_1, s_2, s_3, s_4, s_5, s_6]
   refine Dt 5 rfl ?_ hb6.out (fun _ => trivial) ?_ ?_
   rotate_left; · intro w1 hw1; obtain ⟨y0, -⟩ := hbx.out _ (hBr.out.trans (hw1.mono hBr.out.size)); obtain ⟨p0, p1, p2, p3⟩ := cells4 y0; obtain ⟨z0, -⟩ := hvR.out _ hw1; go_simp; try with_reducible rfl
   try simp only [Act.put, s_1, s_2, s_3, s_4, s_5, s_6]
   refine Dt 6 rfl ?_ hb6.out (fun _ => trivial) ?_ ?_
   rotate_left; · intro w1 hw1; obtain ⟨y0, -⟩ := hbx.out _ (hBr.out.trans (hw1.mono hBr.out.size)); obtain ⟨p0, p1, p2, p3⟩ := cells4 y0; obtain ⟨z0, -⟩ := hvR.out _ hw1; go_simp; try with_reducible rfl
   try simp only [Act.put, s_1, s_2, s_3, s_4, s_5, s_6]
   refine Dt 7 rfl ?_ hb6.out (fun _ => trivial) ?_ ?_
   rotate_left; · intro w1 hw1; obtain ⟨y0, -⟩ := hbx.out _ (hBr.out.trans (hw1.mono hBr.out.size)); obtain ⟨p0, p1, p2, p3⟩ := cells4 y0; obtain ⟨z0, -⟩ := hvR.out _ hw1; go_simp; try with_reducible rfl
   try simp only [Act.put, s_1, s_2, s_3, s_4, s_5, s_6]
   refine Dt 8 rfl ?_ hb6.out (fun _ => trivial) ?_ ?_
   rotate_left; · intro w1 hw1; obtain ⟨y0, -⟩ := hbx.out _ (hBr.out.trans (hw1.mono hBr.out.size)); obtain ⟨p0, p1, p2, p3⟩ := cells4 y0; obtain ⟨z0, -⟩ := hvR.out _ hw1; go_simp; try with_reducible rfl
   try simp only [Act.put, s_1, s_2, s_3, s_4, s_5, s_6]
   refine Dt 9 rfl ?_ hb6.out (fun _ => trivial) ?_ ?_
   rotate_left; · intro w1 hw1; obtain ⟨y0, -⟩ := hbx.out _ (hBr.out.trans (hw1.mono hBr.out.size)); obtain ⟨p0, p1, p2, p3⟩ := cells4 y0; obtain ⟨z0, -⟩ := hvR.out _ hw1; go_simp; try with_reducible rfl
   try simp only [Act.put, s_1, s_2, s_3, s_4, s_5, s_6]
   refine D_one (i := 10) (by kernel_rfl) rfl ?_
   intro K hK
   rw [if_pos (by rfl)]
   go_wp2_with fail
   refine (hal1.out u5 v D17 (hO.out.below hb6.out (Nat.le_refl _)) (hvR.out _ hb6.out).2).mono ?_; rintro e D17_1 ⟨⟨v10, rfl, o10⟩, hE1⟩
   replace hb6 := Lib.hid (Below.then_ hb6.out hE1)
   have r10 := Lib.hid (hown.out _ _ _ _ o10)
   clear o10
   have z_1 := hE1.size; clear hE1
   refine hK _ _ hb6.out (fun _ _ => trivial) ?_
   clear hK K
   try simp only [Act.put, s_1, s_2, s_3, s_4, s_5, s_6]
   refine Dt 11 rfl ?_ hb6.out (fun _ => trivial) ?_ ?_
   rotate_left; · intro w1 hw1; obtain ⟨y0, -⟩ := hbx.out _ (hBr.out.trans (hw1.mono hBr.out.size)); obtain ⟨p0, p1, p2, p3⟩ := cells4 y0; obtain ⟨z0, -⟩ := hvR.out _ hw1; go_simp; try with_reducible rfl
   try simp only [Act.put, s_1, s_2, s_3, s_4, s_5, s_6]
   refine D_done (by kernel_rfl) ?_ _
   go_wp2
   go_roundw
   case rel => exact ⟨q + 1, by omega, by go_num, Lib.hid (hBr.out.trans (hb6.out.mono hBr.out.size)), r10⟩
   case measure => simp [intOf]; omega
  ·obtain rfl : q = ks.size := by omega
   have hr := Lib.hid (hdt.out _ _ hwr.out hO.out)
   rw [hend.out] at hr
   go_wp2_with fail
   refine hr.out.mono ?_; rintro ev W2 ⟨rfl, hb⟩
   go_wp2
   go_ret
   exact ⟨rfl, Below.then_ hwr.out hb⟩
end Go.Proofs.YtlpldfocljnpnaaDoor
namespace Go.Proofs.YtlpldfocljnpnaaDoor
open Go.RowKit Go.Shelf
theorem all_getF {α : Type} {l : List α} {f : α → Bool} (d : α) {j : Nat} (hj : j < l.length) (h : f (l.getD j d) = false) : l.all f = false := by
 rw [List.all_eq_false]
 exact ⟨_, getD_mem l d hj, by rw [h]; decide⟩
theorem all_getT {α : Type} {l : List α} {f : α → Bool} (d : α) (h : ∀ j, j < l.length → f (l.getD j d) = true) : l.all f = true := by
 rw [← all_range f l d, List.all_eq_true]
 exact fun j hj => h j (List.mem_range.1 hj)
theorem sqB_len {n : Nat} {m : List (List Int)} (h : m.length ≠ n) : sqB n m = false := by
 unfold sqB
 rw [show (m.length == n) = false by rw [beq_eq_false_iff_ne]; exact h]; rfl
theorem sqB_row {n j : Nat} {m : List (List Int)} (hj : j < m.length) (h : (m.getD j []).length ≠ n) : sqB n m = false := by
 unfold sqB
 rw [all_getF [] hj (by rw [beq_eq_false_iff_ne]; exact h), Bool.and_false]
theorem sqB_all {n : Nat} {m : List (List Int)} (h : m.length = n) (h2 : ∀ j, j < m.length → (m.getD j []).length = n) : sqB n m = true := by
 unfold sqB
 rw [all_getT [] (f := fun r : List Int => r.length == n) (fun j hj => by rw [beq_iff_eq]; exact h2 j hj), h]; simp
theorem Check17_any (a : Aut) (s e t : Value) (w : World) (ra : RdA w s e t a) :
  Calls Tryd.prog 25 #[.agg #[.int .i64 a.letters, s, e, t]] w fun r w' => r = .returned (.int .i64 (checkA a)) ∧ Below w.heap.size w w' := by
 obtain ⟨As, cs, rfl, -, -⟩ := ra.start.cell_
 obtain ⟨Ae, ce, rfl, -, -⟩ := ra.end_.cell_
 have hR1 := Lib.hid (fun W (hW : Below w.heap.size w W) => residues17_any _ _ W (ra.start.below hW (Nat.le_refl _)))
 have hR2 := Lib.hid (fun W (hW : Below w.heap.size w W) => residues17_any _ _ W (ra.end_.below hW (Nat.le_refl _)))
 obtain ⟨At, ct, rfl, tl, tc, t3⟩ := RdS.open_ ([] : List (List Int)) ra.steps
 have r1 := @checkA_1 a
 have r2 := @checkA_2 a
 have r3 := @checkA_3 a
 have r4 := @checkA_4 a
 obtain ⟨l, hl⟩ : ∃ l, a.letters = l := ⟨_, rfl⟩
 obtain ⟨M, hM⟩ : ∃ M, a.steps = M := ⟨_, rfl⟩
 rw [hl] at r1 r2 r3 r4 ⊢
 rw [hM] at r3 r4 t3 tl tc ⊢
 clear ra
 generalize checkA a = R at *
 generalize isRes a.start = b1 at *
 generalize isRes a.end_ = b2 at *
 generalize a.start.length = n at *
 generalize a.end_.length = m at *
 obtain ⟨k, hk⟩ : ∃ k, M.length = k := ⟨_, rfl⟩
 have hF := Lib.hid (fun (f : List (List Int) → Bool) j (hj : j < k) (h : f (M.getD j []) = false) => all_getF (f := f) [] (show j < M.length by rw [hk]; exact hj) h)
 have hT := Lib.hid (fun (f : List (List Int) → Bool) (h : ∀ j, j < k → f (M.getD j []) = true) => all_getT (l := M) (f := f) [] (fun j hj => h j (by rw [← hk]; exact hj)))
 rw [hk] at r3 r4 t3 tl tc ⊢
 clear hl hM hk
 replace t3 := Lib.hid t3
 obtain ⟨hBX, x0, hz⟩ := box4 w (.int .i64 l) (.slice As n cs) (.slice Ae m ce) (.slice At k ct) 25
 have cX := Lib.hid (fun W (hW : Below (w.alloc (.cells #[.int .i64 l, .slice As n cs, .slice Ae m ce, .slice At k ct] 25)).heap.size (w.alloc (.cells #[.int .i64 l, .slice As n cs, .slice Ae m ce, .slice At k ct] 25)) W) => cells4 ((hW.block _ (lt_of_block x0)).trans x0))
 obtain ⟨q0, q1, q2, q3⟩ := cells4 x0
 replace hBX := Lib.hid hBX
 clear x0 hz
 by_cases e1 : l < 1
 ·have hr := Lib.hid (r1 (.inl e1))
  clear r1 r2 r3 r4
  go_enter Tryd.func25, Tryd.ntmps25
  go_wp2
  go_ret
  exact ⟨by rw [hr.out]; rfl, hBX.out⟩
 by_cases e2 : 4 < l
 ·have hr := Lib.hid (r1 (.inr e2))
  clear r1 r2 r3 r4
  go_enter Tryd.func25, Tryd.ntmps25
  go_wp2
  go_ret
  exact ⟨by rw [hr.out]; rfl, hBX.out⟩
 have h1 : ¬ (l < 1 ∨ 4 < l) := by omega
 by_cases e3 : 12 < n
 ·have hr := Lib.hid (r2 h1 e3)
  clear r1 r2 r3 r4 h1
  have e3' : (12 : Int) < (n : Int) := by omega
  go_enter Tryd.func25, Tryd.ntmps25
  go_wp2
  go_ret
  exact ⟨by rw [hr.out]; rfl, hBX.out⟩
 have e3' : ¬ (12 : Int) < (n : Int) := by omega
 by_cases e4 : ¬ m = n
 ·have hr := Lib.hid (r3 h1 e3 (.inl (by simpa using e4)))
  clear r1 r2 r3 r4 h1
  have y1 : ¬ (m : Int) = (n : Int) := by omega
  have y2 : ((m : Int) == (n : Int)) = false := by rw [beq_eq_false_iff_ne]; exact y1
  have y3 : ((m : Int) != (n : Int)) = true := by rw [bne_iff_ne]; exact y1
  replace e4 := Lib.hid e4
  go_enter Tryd.func25, Tryd.ntmps25
  go_wp2
  go_ret
  exact ⟨by rw [hr.out]; rfl, hBX.out⟩
 have e4 := Decidable.of_not_not e4
 subst e4
 by_cases e5 : ¬ (k : Int) = l
 ·have hr := Lib.hid (r3 h1 e3 (.inr (.inl (by simpa using e5))))
  clear r1 r2 r3 r4 h1
  have y2 : ((k : Int) == l) = false := by rw [beq_eq_false_iff_ne]; exact e5
  have y3 : ((k : Int) != l) = true := by rw [bne_iff_ne]; exact e5
  go_enter Tryd.func25, Tryd.ntmps25
  go_wp2
  go_ret
  exact ⟨by rw [hr.out]; rfl, hBX.out⟩
 have e5 := Decidable.of_not_not e5
 subst e5
 have hA1 := Lib.hid (fun q (hq : q < k) (h : sqB m (M.getD q []) = false) => r3 h1 e3 (.inr (.inr (hF.out _ q hq h))))
 have hA2 := Lib.hid (fun (h : ∀ q, q < k → sqB m (M.getD q []) = true) => r4 h1 e3 (by rw [hT.out _ h]; simp))
 clear r1 r2 r3 r4 h1
 go_enter Tryd.func25, Tryd.ntmps25
 go_wp2_with fail
 generalize (w.alloc (.cells #[.int .i64 (k : Int), .slice As m cs, .slice Ae m ce, .slice At k ct] 25)) = X at *
 go_loopw [4, 6, 41, 51, 52, 53] (fun _ _ i _ _ _ wr => ∃ q : Nat, q ≤ k ∧ i = .int .i64 q ∧ Hid (Below X.heap.size X wr) ∧ Hid (∀ j, j < q → sqB m (M.getD j []) = true)) (fun _ _ i _ _ _ _ => k - (intOf i).toNat)
 case atStart => exact ⟨0, Nat.zero_le _, rfl, Lib.hid (Below.refl _ _), Lib.hid (fun j hj => by omega)⟩
 case round =>
  clear q0 q1 q2 q3
  obtain ⟨q, hq, rfl, hB, hE⟩ := hrel
  have hBw := Lib.hid (Below.then_ hBX.out hB.out)
  obtain ⟨q0, q1, q2, q3⟩ := cX.out wr hB.out
  by_cases hlt : q < k
  ·obtain ⟨bq, oq, v, rfl, hc, hv⟩ := t3.out q hlt
   replace hc := (hBw.out.cell (p := ⟨bq, oq + q, none⟩) (World.block_lt_of_cell? w _ hc)).trans hc
   obtain ⟨Am, cm, rfl, -, -, m3⟩ := hv.open_
   have hbad := Lib.hid (hA1.out q hlt)
   have hl1 := Lib.hid (@sqB_len m (M.getD q []))
   have hl2 := Lib.hid (fun j => @sqB_row m j (M.getD q []))
   have hl3 := Lib.hid (@sqB_all m (M.getD q []))
   obtain ⟨mm, hmm⟩ : ∃ mm, (M.getD q []).length = mm := ⟨_, rfl⟩
   rw [hmm] at m3 hc hl1 hl2 hl3
   have y1 : (q : Int) < (k : Int) := by omega
   have y0 : (0 : Int) ≤ (q : Int) := by omega
   replace m3 := Lib.hid m3
   clear hv hmm
   by_cases em : mm = m
   ·subst em
    go_wp2
    clear hc q0 q1 q2 q3
    go_loopw [6, 53] (fun _ i wr => ∃ p : Nat, p ≤ mm ∧ i = .int .i64 p ∧ Hid (Below X.heap.size X wr) ∧ Hid (∀ j, j < p → ((M.getD q []).getD j []).length = mm)) (fun _ i _ => mm - (intOf i).toNat)
    case atStart => exact ⟨0, Nat.zero_le _, rfl, hB, Lib.hid (fun j hj => by omega)⟩
    case round =>
     obtain ⟨p, hp, rfl, hB2, hE2⟩ := hrel
     have hBw2 := Lib.hid (Below.then_ hBX.out hB2.out)
     obtain ⟨q0, q1, q2, q3⟩ := cX.out wr hB2.out
     by_cases hlp : p < mm
     ·obtain ⟨br, or_, u, rfl, hc2, hu⟩ := m3.out p hlp
      replace hc2 := (hBw2.out.cell (p := ⟨br, or_ + p, none⟩) (World.block_lt_of_cell? w _ hc2)).trans hc2
      obtain ⟨Ar, cr, rfl, -, -⟩ := hu.cell_
      obtain ⟨rl, hrl⟩ : ∃ rl, ((M.getD q []).getD p []).length = rl := ⟨_, rfl⟩
      rw [hrl] at hc2
      replace hrl := Lib.hid hrl
      have z1 : (p : Int) < (mm : Int) := by omega
      have z0 : (0 : Int) ≤ (p : Int) := by omega
      clear hu
      by_cases er : rl = mm
      ·subst er
       have hE3 : Hid (∀ j, j < p + 1 → ((M.getD q []).getD j []).length = rl) := Lib.hid (fun j hj => by
        by_cases e : j = p
        ·rw [e]; exact hrl.out
        ·exact hE2.out j (by omega))
       go_wp2
       go_roundw
       case rel => exact ⟨p + 1, by omega, by go_num, hB2, hE3⟩
       case measure => simp [intOf]; omega
      ·have hr := Lib.hid (hbad.out (hl2.out p hlp (by rw [hrl.out]; exact er)))
       have z2 : ((rl : Int) != (mm : Int)) = true := by rw [bne_iff_ne]; omega
       replace er := Lib.hid er
       go_wp2
       go_ret
       exact ⟨by rw [hr.out]; rfl, hBw2.out⟩
     ·obtain rfl : p = mm := by omega
      have hE3 : Hid (∀ j, j < q + 1 → sqB p (M.getD j []) = true) := Lib.hid (fun j hj => by
       by_cases e : j = q
       ·rw [e]; exact hl3.out (by first | exact rfl | trivial) hE2.out
       ·exact hE.out j (by omega))
      go_wp2
      go_roundw
      case rel => exact ⟨q + 1, by omega, by go_num, hB2, hE3⟩
      case measure => simp [intOf]; omega
   ·have hr := Lib.hid (hbad.out (hl1.out em))
    have z2 : ((mm : Int) != (m : Int)) = true := by rw [bne_iff_ne]; omega
    replace em := Lib.hid em
    go_wp2
    go_ret
    exact ⟨by rw [hr.out]; rfl, hBw.out⟩
  ·obtain rfl : q = k := by omega
   have r5 := hA2.out hE.out
   clear hA1 hA2
   cases b1 with
   | false =>
    have hr := Lib.hid (r5.trans (if_pos (.inl rfl)))
    clear r5
    go_wp2_with fail
    refine (hR1.out _ hBw.out).mono ?_; rintro ev W1 ⟨rfl, hb⟩
    have hB1 := Lib.hid (Below.then_ hBw.out hb)
    go_wp2
    go_ret
    exact ⟨by rw [hr.out]; rfl, hB1.out⟩
   | true =>
    go_wp2_with fail
    refine (hR1.out _ hBw.out).mono ?_; rintro ev W1 ⟨rfl, hb⟩
    have hB1 := Lib.hid (Below.then_ hBw.out hb)
    replace hB := Lib.hid (Below.then_ hB.out hb)
    clear q0 q1 q2 q3 hb
    obtain ⟨q0, q1, q2, q3⟩ := cX.out _ hB.out
    cases b2 with
    | false =>
     have hr := Lib.hid (r5.trans (if_pos (.inr (.inl rfl))))
     clear r5
     go_wp2_with fail
     refine (hR2.out _ hB1.out).mono ?_; rintro ev W2 ⟨rfl, hb⟩
     have hB2 := Lib.hid (Below.then_ hB1.out hb)
     go_wp2
     go_ret
     exact ⟨by rw [hr.out]; rfl, hB2.out⟩
    | true =>
     have hr0 := Lib.hid (fun (p : Nat) (hp : p < q) (h : (M.getD p []).all isRes = false) => r5.trans (if_pos (.inr (.inr (hF.out (fun m => m.all isRes) p hp h)))))
     have hr1 := Lib.hid (fun (h : ∀ p, p < q → (M.getD p []).all isRes = true) => r5.trans (if_neg (by rw [hT.out (fun m => m.all isRes) h]; simp)))
     clear r5
     go_wp2_with fail
     refine (hR2.out _ hB1.out).mono ?_; rintro ev W2 ⟨rfl, hb⟩
     replace hB := Lib.hid (Below.then_ hB.out hb)
     clear q0 q1 q2 q3 hb
     obtain ⟨q0, q1, q2, q3⟩ := cX.out _ hB.out
     go_wp2_with fail
     clear q0 q1 q2 q3
     go_loopw [8, 10, 78, 82, 83, 84] (fun _ _ i _ _ _ wr => ∃ p : Nat, p ≤ q ∧ i = .int .i64 p ∧ Hid (Below X.heap.size X wr) ∧ Hid (∀ j, j < p → (M.getD j []).all isRes = true)) (fun _ _ i _ _ _ _ => q - (intOf i).toNat)
     case atStart => exact ⟨0, Nat.zero_le _, rfl, hB, Lib.hid (fun j hj => by omega)⟩
     case round =>
      obtain ⟨p, hp, rfl, hB2, hE2⟩ := hrel
      have hBw2 := Lib.hid (Below.then_ hBX.out hB2.out)
      by_cases hlt2 : p < q
      ·obtain ⟨bq, oq, v, rfl, hc, hv⟩ := t3.out p hlt2
       replace hc := (hBw2.out.cell (p := ⟨bq, oq + p, none⟩) (World.block_lt_of_cell? w _ hc)).trans hc
       obtain ⟨Am, cm, rfl, -, mbd, m3⟩ := hv.open_
       have hbad := Lib.hid (fun j (hj : j < (M.getD p []).length) (h : isRes ((M.getD p []).getD j []) = false) => hr0.out p hlt2 (all_getF [] hj h))
       have hgood := Lib.hid (fun (h : ∀ j, j < (M.getD p []).length → isRes ((M.getD p []).getD j []) = true) => all_getT (l := M.getD p []) (f := isRes) [] h)
       obtain ⟨mm, hmm⟩ : ∃ mm, (M.getD p []).length = mm := ⟨_, rfl⟩
       rw [hmm] at m3 hc hbad hgood mbd
       have y1 : (p : Int) < (q : Int) := by omega
       have y0 : (0 : Int) ≤ (p : Int) := by omega
       replace m3 := Lib.hid m3
       clear hv hmm
       go_wp2
       clear hc
       go_loopw [10, 84] (fun _ i wr => ∃ j : Nat, j ≤ mm ∧ i = .int .i64 j ∧ Hid (Below X.heap.size X wr) ∧ Hid (∀ y, y < j → isRes ((M.getD p []).getD y []) = true)) (fun _ i _ => mm - (intOf i).toNat)
       case atStart => exact ⟨0, Nat.zero_le _, rfl, hB2, Lib.hid (fun j hj => by omega)⟩
       case round =>
        obtain ⟨j, hj, rfl, hB3, hE3⟩ := hrel
        have hBw3 := Lib.hid (Below.then_ hBX.out hB3.out)
        by_cases hlj : j < mm
        ·obtain ⟨br, or_, u, rfl, hc2, hu⟩ := m3.out j hlj
         replace hc2 := (hBw3.out.cell (p := ⟨br, or_ + j, none⟩) (World.block_lt_of_cell? w _ hc2)).trans hc2
         have hres := Lib.hid (residues17_any _ _ wr (hu.below hBw3.out (Nat.le_refl _)))
         have hbad1 := Lib.hid (hbad.out j hlj)
         have hE4 : Hid (isRes ((M.getD p []).getD j []) = true → ∀ y, y < j + 1 → isRes ((M.getD p []).getD y []) = true) := Lib.hid (fun h y hy => by
          by_cases e : y = j
          ·rw [e]; exact h
          ·exact hE3.out y (by omega))
         obtain ⟨Ar, cr, rfl, -, -⟩ := hu.cell_
         have z1 : (j : Int) < (mm : Int) := by omega
         have z0 : (0 : Int) ≤ (j : Int) := by omega
         clear hu
         generalize ((M.getD p []).getD j []).length = rl at *
         generalize isRes ((M.getD p []).getD j []) = rb at *
         go_wp2_with fail
         refine hres.out.mono ?_; rintro ev W3 ⟨rfl, hb⟩
         replace hB3 := Lib.hid (Below.then_ hB3.out hb)
         have hBf := Lib.hid (Below.then_ hBX.out hB3.out)
         clear hb
         cases rb with
         | true =>
          have hE5 := Lib.hid (hE4.out rfl)
          go_wp2
          go_roundw
          case rel => exact ⟨j + 1, by omega, by go_num, hB3, hE5⟩
          case measure => simp [intOf]; omega
         | false =>
          have hr := Lib.hid (hbad1.out rfl)
          go_wp2
          go_ret
          exact ⟨by rw [hr.out]; rfl, hBf.out⟩
        ·obtain rfl : j = mm := by omega
         have hE4 : Hid (∀ y, y < p + 1 → (M.getD y []).all isRes = true) := Lib.hid (fun y hy => by
          by_cases e : y = p
          ·rw [e]; exact hgood.out hE3.out
          ·exact hE2.out y (by omega))
         go_wp2
         go_roundw
         case rel => exact ⟨p + 1, by omega, by go_num, hB3, hE4⟩
         case measure => simp [intOf]; omega
      ·obtain rfl : p = q := by omega
       have hr := Lib.hid (hr1.out hE2.out)
       go_wp2
       go_ret
       exact ⟨by rw [hr.out]; rfl, hBw2.out⟩
end Go.Proofs.YtlpldfocljnpnaaDoor
