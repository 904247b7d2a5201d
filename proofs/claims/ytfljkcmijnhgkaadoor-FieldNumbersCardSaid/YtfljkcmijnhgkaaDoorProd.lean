/- identity, product, raised: their contracts. -/
import Derived.Test.YtfljkcmijnhgkaaDoorMade
import Derived.StillTailTactics
namespace Go.Proofs.YtfljkcmijnhgkaaDoor
open Go.RowKit Go.Shelf

set_option maxHeartbeats 400000 in
theorem identity_1 (i k : Nat) (w : World) : Calls Tryd.prog 142 (#[.int .i64 i, .int .i64 k] ++ #[]) w fun e w' => e = .returned (.int .i64 (if i = k then 1 else 0)) ∧ w = w' := by
  by_cases h : i = k
  · subst h
    go_enter Tryd.func142, Tryd.ntmps142
    go_wp2
    go_ret
    exact ⟨by simp, rfl⟩
  · have h2 : ((i : Int) == (k : Int)) = false := by rw [beq_eq_false_iff_ne]; omega
    go_enter Tryd.func142, Tryd.ntmps142
    go_wp2
    go_ret
    exact ⟨rfl, rfl⟩
set_option maxHeartbeats 400000 in
theorem identity_any (n : Nat) (w : World) (hn : n ≤ 1000000) : Calls Tryd.prog 99 #[.int .i64 n] w fun e w' => (∃ v, e = .returned v ∧ OwnM w' w.heap.size v (idM n)) ∧ Below w.heap.size w w' := by
  have hc := Lib.hid (made_any (fun i k => if i = k then 1 else 0) n n 142 #[] (enters_of Tryd.func142 (by kernel_rfl) rfl) w hn hn (fun W i k _ _ _ => identity_1 i k W))
  go_enter Tryd.func99, Tryd.ntmps99
  go_wp2_with (go_at_call 141; refine hc.out.mono ?_; rintro e w' ⟨⟨v, rfl, ho⟩, hb⟩)
  go_ret
  exact ⟨⟨_, rfl, ho⟩, hb⟩

set_option maxRecDepth 100000 in
set_option maxHeartbeats 800000 in
theorem product_1 (a b : List (List Int)) (n l m i k : Nat) (pa pb : Addr) (va vb : Value) (w : World) (ha : okM a n l) (hb : okM b l m) (_hn : n ≤ 1000) (hl : l ≤ 1000) (_hm : m ≤ 1000) (hi : i < n) (hk : k < m)
    (ra : RdM w va a) (rb : RdM w vb b) (ca : w.cell? pa = some va) (cb : w.cell? pb = some vb) :
    Calls Tryd.prog 143 (#[.int .i64 i, .int .i64 k] ++ #[.pointer (some pa), .pointer (some pb)]) w fun e w' => e = .returned (.int .i64 (prodE a b i k)) ∧ w = w' := by
  obtain ⟨A, c, rfl, h1, h2, h3⟩ := ra.open_
  obtain ⟨B, d, rfl, g1, g2, g3⟩ := rb.open_
  rw [ha.1] at *
  rw [hb.1] at *
  obtain ⟨b0, off0, u, rfl, hc0, hu⟩ := h3 i (by omega)
  obtain ⟨A1, c1, rfl, f1, f2, f3⟩ := hu.open_
  rw [ha.row hi] at *
  have hE : Hid (prodE a b i k = psum (fun j => gM a i j * gM b j k % 65521) l % 65521) := by rw [prodE, ha.row hi]; exact rfl
  have hbd := fun j => psum_bd (f := fun j => gM a i j * gM b j k % 65521) (fun j => ⟨Int.emod_nonneg _ (by decide), Int.emod_lt_of_pos _ (by decide)⟩) j
  have i1 : (i : Int) < (n : Int) := by omega
  have i0 : (0 : Int) ≤ (i : Int) := by omega
  clear ra rb hu h3
  replace hbd := Lib.hid hbd
  replace f3 := Lib.hid f3
  replace g3 := Lib.hid g3
  have na := Lib.hid ha.num
  have nb := Lib.hid hb.num
  have rowb := Lib.hid (fun j (hj : j < l) => hb.row hj)
  clear ha hb
  go_enter Tryd.func143, Tryd.ntmps143
  go_wp2
  go_loop [7, 8, 9, 15] (fun s _ _ j => ∃ q : Nat, q ≤ l ∧ j = .int .i64 q ∧ s = .int .i64 (psum (fun j => gM a i j * gM b j k % 65521) q)) (fun _ _ _ j => l - (intOf j).toNat)
  case atStart => exact ⟨0, Nat.zero_le _, rfl, rfl⟩
  case round =>
    obtain ⟨q, hq, rfl, rfl⟩ := hrel
    by_cases hlt : q < l
    · obtain ⟨b2, off2, rfl, hc2⟩ := f3.out q (by omega)
      obtain ⟨b3, off3, u3, rfl, hc3, hu3⟩ := g3.out q (by omega)
      obtain ⟨A4, c4, rfl, e1, e2, e3⟩ := hu3.open_
      rw [rowb.out q hlt] at e1 e2 e3 hc3
      obtain ⟨b4, off4, rfl, hc4⟩ := e3 k (by omega)
      clear e3 hu3
      change _ = some (Value.int .i64 (gM a i q)) at hc2
      change _ = some (Value.int .i64 (gM b q k)) at hc4
      have n1 := na.out i q
      have n2 := nb.out q k
      have hs : psum (fun j => gM a i j * gM b j k % 65521) (q + 1) = psum (fun j => gM a i j * gM b j k % 65521) q + gM a i q * gM b q k % 65521 := rfl
      replace hs := Lib.hid hs
      have ⟨p1, p2⟩ := hbd.out q
      have ⟨m1, m2⟩ := mul_bd n1.1 n1.2 n2.1 n2.2
      generalize psum (fun j => gM a i j * gM b j k % 65521) q = S at p1 p2 hs ⊢
      generalize gM a i q = x at n1 m1 m2 hc2 hs
      generalize gM b q k = y at n2 m1 m2 hc4 hs
      have q1 : (q : Int) < (l : Int) := by omega
      have q0 : (0 : Int) ≤ (q : Int) := by omega
      have k1 : (k : Int) < (m : Int) := by omega
      have k0 : (0 : Int) ≤ (k : Int) := by omega
      go_wp2
      go_round
      case rel => exact ⟨q + 1, by omega, by go_num, congrArg (Value.int .i64) hs.out.symm⟩
      case measure => simp [intOf]; omega
    · obtain rfl : q = l := by omega
      have ⟨p1, p2⟩ := hbd.out q
      go_wp2
      go_ret
      exact ⟨by rw [hE.out]; rfl, rfl⟩

theorem cell_first (w : World) (x y : Value) (t t' : TypeId) : ((w.alloc (.cells #[x] t)).alloc (.cells #[y] t')).cell? ⟨w.heap.size, 0, none⟩ = some x := by
  have h := cell_new w x t
  exact (((Below.refl (w.alloc (.cells #[x] t)).heap.size _).alloc (Nat.le_refl _) _).cell (p := ⟨w.heap.size, 0, none⟩) (by simp)).trans h
set_option maxRecDepth 100000 in
set_option maxHeartbeats 800000 in
theorem product_any (a b : List (List Int)) (n l m : Nat) (va vb : Value) (w : World) (ha : okM a n l) (hb : okM b l m) (hn : n ≤ 1000) (hl : l ≤ 1000) (hm : m ≤ 1000) (hl0 : 0 < l)
    (ra : RdM w va a) (rb : RdM w vb b) :
    Calls Tryd.prog 100 #[va, vb] w fun e w' => (∃ v, e = .returned v ∧ OwnM w' w.heap.size v (prodM a b)) ∧ Below w.heap.size w w' := by
  have hP : prodM a b = mat (prodE a b) n m := by rw [prodM, ha.1, hb.len0 hl0]
  have hb0 : Below w.heap.size w ((w.alloc (.cells #[va] 22)).alloc (.cells #[vb] 22)) := ((Below.refl _ _).alloc (Nat.le_refl _) _).alloc (by simp) _
  have hc := fun W (hW : Below ((w.alloc (.cells #[va] 22)).alloc (.cells #[vb] 22)).heap.size ((w.alloc (.cells #[va] 22)).alloc (.cells #[vb] 22)) W) => made_any (prodE a b) n m 143 #[.pointer (some ⟨w.heap.size, 0, none⟩), .pointer (some ⟨w.heap.size + 1, 0, none⟩)] (enters_of Tryd.func143 (by kernel_rfl) rfl) W (by omega) (by omega) (fun W' i k hW' hi hk =>
    product_1 a b n l m i k ⟨w.heap.size, 0, none⟩ ⟨w.heap.size + 1, 0, none⟩ va vb W' ha hb hn hl hm hi hk (ra.below ((Below.then_ hb0 hW).trans (hW'.mono (Below.then_ hb0 hW).size)) (Nat.le_refl _)) (rb.below ((Below.then_ hb0 hW).trans (hW'.mono (Below.then_ hb0 hW).size)) (Nat.le_refl _))
      (((hW.trans (hW'.mono hW.size)).cell (p := ⟨w.heap.size, 0, none⟩) (by simp; omega)).trans (cell_first _ _ _ _ _))
      (((hW.trans (hW'.mono hW.size)).cell (p := ⟨w.heap.size + 1, 0, none⟩) (by simp)).trans (by have h := cell_new (w.alloc (.cells #[va] 22)) vb 22; rw [World.size_alloc] at h; exact h)))
  obtain ⟨A, c, rfl, h1, h2, h3⟩ := ra.open_
  obtain ⟨B, d, rfl, g1, g2, g3⟩ := rb.open_
  rw [ha.1] at *
  rw [hb.1] at *
  obtain ⟨b0, off0, u, rfl, hc0, hu⟩ := g3 0 (by omega)
  obtain ⟨A1, c1, rfl, f1, f2⟩ := hu.cell_
  rw [hb.row hl0, Nat.add_zero] at *
  have hl1 : (0 : Int) < (l : Int) := by omega
  have hlt : b0 < w.heap.size := World.block_lt_of_cell? w _ hc0
  replace hc := Lib.hid hc
  replace hP := Lib.hid hP
  have q0 := cell_first w (.slice A n c) (.slice (some ⟨b0, off0, none⟩) l d) 22 22
  have q1 := cell_new (w.alloc (.cells #[.slice A n c] 22)) (.slice (some ⟨b0, off0, none⟩) l d) 22
  rw [World.size_alloc] at q1
  have q2 := (hb0.cell (p := ⟨b0, off0, none⟩) hlt).trans hc0
  clear ra rb hu h3 g3 ha hb
  go_enter Tryd.func100, Tryd.ntmps100
  go_wp2
  generalize hW : (w.alloc (.cells #[.slice A n c] 22)).alloc (.cells #[.slice (some ⟨b0, off0, none⟩) l d] 22) = W at hb0 hc q0 q1 q2 ⊢
  clear hW
  go_still_tail 7, (by kernel_rfl)
  change wpList _ _ _ _ _ W.drew
  have hbd : Below W.heap.size W W.drew := (Below.refl _ _).drew
  replace hc := Lib.hid (hc.out W.drew hbd)
  go_wp2_with (go_at_call 141; refine hc.out.mono ?_; rintro e w' ⟨⟨v, rfl, ho⟩, hb'⟩)
  go_ret
  have hz := hb0.size
  exact ⟨⟨_, rfl, by rw [hP.out]; exact OwnM.base ho hz⟩, (Below.then_ hb0 hbd).trans (hb'.mono hz)⟩

theorem OwnM.rdOk {w : World} {base : Nat} {v : Value} {a : List (List Int)} (h : OwnM w base v a) {n m : Nat} (ha : okM a n m) (hn : n ≤ 1000) (hm : m ≤ 1000) : RdM w v a :=
  h.rd (by rw [ha.1]; omega) (fun r hr => by have := (ha.2 r hr).1; omega)
theorem powF_zero (f : Nat) (o a : List (List Int)) : powF f o a 0 = o := by cases f <;> simp [powF]
theorem powF_odd {f n : Nat} (o a : List (List Int)) (h : n % 2 = 1) : powF (f + 1) o a n = powF f (prodM o a) (prodM a a) (n / 2) := by
  rw [powF, if_neg (by omega), if_pos h]
theorem powF_even {f n : Nat} (o a : List (List Int)) (h : n % 2 = 0) (h0 : 0 < n) : powF (f + 1) o a n = powF f o (prodM a a) (n / 2) := by
  rw [powF, if_neg (by omega), if_neg (by omega)]
set_option maxRecDepth 100000 in
set_option maxHeartbeats 800000 in
theorem raised_any (a : List (List Int)) (m : Nat) (va : Value) (e : Nat) (w : World) (ha : okM a m m) (hm : m ≤ 1000) (hm0 : 0 < m) (he : e ≤ 9223372036854775807) (ra : RdM w va a) :
    Calls Tryd.prog 105 #[va, .int .i64 e] w fun r w' => (∃ v, r = .returned v ∧ OwnM w' w.heap.size v (powMat a e)) ∧ Below w.heap.size w w' := by
  have hP : powMat a e = powF 64 (idM m) a e := by rw [powMat, ha.1]
  obtain ⟨A, c, e1, h1, h2, _⟩ := ra.open_
  rw [ha.1] at e1 h1 h2
  have ra0 := ra
  rw [e1] at ra0
  subst e1
  have hid := Lib.hid (identity_any m w (by omega))
  replace ra0 := Lib.hid ra0
  replace hP := Lib.hid hP
  have ha0 := Lib.hid ha
  clear ra ha
  go_enter Tryd.func105, Tryd.ntmps105
  go_wp2_with (go_at_call 99; refine hid.out.mono ?_; rintro r W1 ⟨⟨v1, rfl, ho1⟩, hb1⟩)
  replace ho1 := Lib.hid ho1
  go_loopw [0, 1, 5] (fun x y o wr => ∃ (f n : Nat) (x' o' : List (List Int)), y = .int .i64 n ∧ n < 2 ^ f ∧ n ≤ e ∧ Below w.heap.size w wr ∧ Hid (okM x' m m ∧ okM o' m m ∧ RdM wr x x' ∧ OwnM wr w.heap.size o o' ∧ powF f o' x' n = powMat a e)) (fun _ y _ _ => (intOf y).toNat)
  case atStart =>
    refine ⟨64, e, a, idM m, rfl, by have : (2 : Nat) ^ 64 = 18446744073709551616 := by decide
                                     omega, Nat.le_refl _, hb1, Lib.hid ⟨ha0.out, okM_id m, ra0.out.below hb1 (Nat.le_refl _), ho1.out, hP.out.symm⟩⟩
  case round =>
    obtain ⟨f, n, x', o', rfl, hf, hne, hB, H⟩ := hrel
    obtain ⟨ox, oo, rx, ro, hH⟩ := H.out
    clear H
    have rx' := Lib.hid rx
    have ro' := Lib.hid (ro.rdOk oo hm hm)
    have ro := Lib.hid ro
    clear rx
    by_cases h0 : n = 0
    · subst h0
      rw [powF_zero] at hH
      replace hH := Lib.hid hH
      go_wp2
      go_ret
      exact ⟨⟨_, rfl, by rw [← hH.out]; exact ro.out⟩, hB⟩
    · obtain ⟨f, rfl⟩ : ∃ g, f = g + 1 := ⟨f - 1, by
        cases f with
        | zero => omega
        | succ f => omega⟩
      have hf' : n / 2 < 2 ^ f := by rw [Nat.pow_succ] at hf; omega
      have hsq := Lib.hid (fun W (hW : Below wr.heap.size wr W) => product_any x' x' m m m u0 u0 W ox ox hm hm hm hm0 (rx'.out.below hW (Nat.le_refl _)) (rx'.out.below hW (Nat.le_refl _)))
      have hb1 := i64_and_one (b := (n : Int)) (by omega) (by omega)
      by_cases hodd : n % 2 = 1
      · rw [powF_odd _ _ hodd] at hH
        replace hH := Lib.hid hH
        have hmul := Lib.hid (product_any o' x' m m m u5 u0 wr oo ox hm hm hm hm0 ro'.out rx'.out)
        have hb2 : bits BinOp.and IntKind.i64 (n : Int) 1 = 1 := by rw [hb1]; omega
        clear hb1 hf
        go_wp2_with fail
        refine hmul.out.mono ?_; rintro r W1 ⟨⟨v1, rfl, ho1⟩, hb1⟩
        replace ho1 := Lib.hid ho1
        go_wp2_with fail
        refine (hsq.out W1 hb1).mono ?_; rintro r W2 ⟨⟨v2, rfl, ho2⟩, hb2⟩
        replace ho2 := Lib.hid ho2
        go_wp2
        go_roundw
        case rel => exact ⟨f, n / 2, _, _, by go_num, hf', by omega, (hB.trans (hb1.mono hB.size)).trans (hb2.mono (Below.then_ hB hb1).size), Lib.hid ⟨okM_prod ox ox hm0, okM_prod oo ox hm0, ho2.out.rdOk (okM_prod ox ox hm0) hm hm, (ho1.out.base hB.size).below hb2, hH.out⟩⟩
        case measure => simp [intOf]; omega
      · have hev : n % 2 = 0 := by omega
        rw [powF_even _ _ hev (by omega)] at hH
        replace hH := Lib.hid hH
        have hb2 : bits BinOp.and IntKind.i64 (n : Int) 1 = 0 := by rw [hb1]; omega
        clear hb1 hf
        go_wp2_with fail
        refine (hsq.out wr (Below.refl _ _)).mono ?_; rintro r W2 ⟨⟨v2, rfl, ho2⟩, hb2⟩
        replace ho2 := Lib.hid ho2
        go_wp2
        go_roundw
        case rel => exact ⟨f, n / 2, _, _, by go_num, hf', by omega, hB.trans (hb2.mono hB.size), Lib.hid ⟨okM_prod ox ox hm0, oo, ho2.out.rdOk (okM_prod ox ox hm0) hm hm, ro.out.below hb2, hH.out⟩⟩
        case measure => simp [intOf]; omega
end Go.Proofs.YtfljkcmijnhgkaaDoor
