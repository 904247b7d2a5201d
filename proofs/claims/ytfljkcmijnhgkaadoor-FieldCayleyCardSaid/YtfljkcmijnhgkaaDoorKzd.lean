/- FieldCayley: its contract. -/
import Derived.Test.YtfljkcmijnhgkaaDoorKzb
import Derived.Test.YtfljkcmijnhgkaaDoorKzc
import Derived.Test.YtfljkcmijnhgkaaDoorKi
import Derived.Test.YtfljkcmijnhgkaaDoorKh
import Derived.Test.YtfljkcmijnhgkaaDoorKn
namespace Go.Proofs.YtfljkcmijnhgkaaDoor
open Go.RowKit Go.Shelf
set_option linter.unusedSimpArgs false

theorem powR_of {a : List (List Int)} {m : Nat} (h : okM a m m) (h1 : 1 ≤ m) (h2 : m ≤ 12) {e : Nat} (he : e < 18446744073709551616) : powR a (e : Int) = (0, powL a m e) := by
  rw [powR, squareM_of h h1 h2, if_neg (by simp), if_neg (by omega), Int.toNat_natCast, powMat_eq h h1 he]
theorem grown_alloc (w : World) (o : Obj) (row : Option Nat) : w.grownBy (w.alloc o) row := grown_of_below ((Below.refl _ _).alloc (Nat.le_refl _) _) row
/-- The sum while number k of the polynomial is at place i, j. -/
def cyP (a : List (List Int)) (n N k i j x y : Nat) : Int := if x < i ∨ (x = i ∧ y < j) then cyE a n N (k + 1) x y else cyE a n N k x y
theorem cyP_start (a : List (List Int)) (n N k m : Nat) : mat (cyP a n N k 0 0) m m = mat (cyE a n N k) m m := mat_congr fun x y _ _ => by rw [cyP, if_neg (by omega)]
theorem cyP_row (a : List (List Int)) (n N k i m : Nat) : mat (cyP a n N k i m) m m = mat (cyP a n N k (i + 1) 0) m m := mat_congr fun x y _ hy => by
  unfold cyP
  by_cases h : x < i ∨ (x = i ∧ y < m)
  · rw [if_pos h, if_pos (by omega)]
  · rw [if_neg h, if_neg (by omega)]
theorem cyP_end (a : List (List Int)) (n N k m : Nat) : mat (cyP a n N k m 0) m m = mat (cyE a n N (k + 1)) m m := mat_congr fun x y hx _ => by rw [cyP, if_pos (by omega)]
theorem cyP_put (a : List (List Int)) (n N k i j x y : Nat) : (if x = i ∧ y = j then (cyE a n N k i j + (chL a).getD k 0 * gM (powL a n (N - 1 - k)) i j) % 65521 else cyP a n N k i j x y) = cyP a n N k i (j + 1) x y := by
  unfold cyP
  by_cases h : x = i ∧ y = j
  · obtain ⟨rfl, rfl⟩ := h
    rw [if_pos ⟨rfl, rfl⟩, if_pos (by omega), cyE_step]
  · rw [if_neg h]
    by_cases h2 : x < i ∨ (x = i ∧ y < j)
    · rw [if_pos h2, if_pos (by omega)]
    · rw [if_neg h2, if_neg (by omega)]
theorem cyE_zero (a : List (List Int)) (n N m : Nat) : mat (cyE a n N 0) m m = mat (fun _ _ => 0) m m := mat_congr fun x y _ _ => by simp [cyE, psum]
theorem zero_rows (m : Nat) : ∀ i, i < m → (mat (fun _ _ => (0 : Int)) m m).getD i [] = List.replicate m 0 := fun i hi => by
  rw [mat_getD _ hi]
  apply List.ext_getElem (by simp)
  intro y h1 h2
  simp
/-- Rows that are written stand before what is read. -/
theorem KeptBut.ownM {vs : List Value} {w w' : World} (h : KeptBut vs w w') {base : Nat} {v : Value} {rs : List (List Int)} (ho : OwnM w base v rs) (hlt : ∀ u ∈ vs, ∀ q, u.ownBlock = some q → q < base) : OwnM w' base v rs := by
  obtain ⟨us, h1, h2, h3⟩ := ho
  have hne : ∀ b, base ≤ b → ∀ u ∈ vs, u.ownBlock ≠ some b := fun b hb u hu e => by have := hlt u hu b e; omega
  refine ⟨us, h.owns h1 (fun b e => hne b (h1.lt b e).1), fun j r u hr hu => h.owns (h2 j r u hr hu) (fun b e => hne b (World.ownsRow.lt (h2 j r u hr hu) b e).1), h3⟩
set_option maxRecDepth 100000 in
set_option maxHeartbeats 6400000 in
theorem FieldCayley_any (sz fr ft n1 : Nat) (v1 : Value) (w : World) (h1 : RdB w w.heap.size v1 n1) (hsz : sz < 256) (hfr : fr < 256) (hft : ft < 65536) (hJ : Joins w) :
    Calls Tryd.prog 4 #[v1, .int .u8 sz, .int .u8 fr, .int .u16 ft] w fun e w' => e = .returned (.bool true) ∧ Below w.heap.size w w' := by
  have hA := Lib.hid (fun W (hW : Below w.heap.size w W) => awake_any W (hJ.below hW))
  have f1 := Lib.hid (Fill_any n1 v1 w h1)
  have hT := Lib.hid (Below.refl w.heap.size w)
  obtain ⟨m, hm⟩ : ∃ m, m = sz % 6 + 1 := ⟨_, rfl⟩
  have hm1 : 0 < m := by omega
  have hm2 : m ≤ 6 := by omega
  have e8 : (sz : Int).tmod 6 = ((sz % 6 : Nat) : Int) := by rw [Int.tmod_eq_emod_of_nonneg (by omega)]; omega
  have e9 : ((sz % 6 : Nat) : Int) + 1 = (m : Int) := by omega
  generalize sz % 6 = s8 at *
  replace hm := Lib.hid hm
  obtain ⟨N, hN⟩ : ∃ N, N = m + fr := ⟨_, rfl⟩
  have eN : (m : Int) + (fr : Int) = (N : Int) := by omega
  obtain ⟨N2, hN2⟩ : ∃ N2, N2 = N + ft := ⟨_, rfl⟩
  have eN2 : (N : Int) + (ft : Int) = (N2 : Int) := by omega
  clear h1 hJ
  go_enter Tryd.func4, Tryd.ntmps4
  go_wp2_with fail
  refine (f1.out).mono ?_; rintro e V1 ⟨rfl, hS, hN1⟩
  replace hT := Lib.hid (Below.then_ hT.out hN1)
  have z_V1 := hN1.size; clear hN1
  replace hS := Lib.hid hS
  go_wp2_with fail
  refine (matrix_any w.heap.size 0 m m V1 hS.out (by omega) hm1 (by omega) hm1 (by omega)).mono ?_; rintro e V2 ⟨⟨va, A, rfl, okA, oA⟩, -, hB2⟩
  have rA0 := Lib.hid (oA.rdOk okA (by omega) (by omega))
  replace okA := Lib.hid okA
  replace hT := Lib.hid (hT.out.trans ((hB2.below (by omega)).mono (by omega)))
  have z_V2 := hB2.size; clear hB2
  clear oA hS f1
  have hP := Lib.hid (Below.refl V2.heap.size V2)
  have rA := Lib.hid (fun W (hW : Below V2.heap.size V2 W) => rA0.out.below hW (Nat.le_refl _))
  have cA := squareM_of okA.out hm1 (by omega)
  have eC : charR A = (0, chL A) := by rw [charR, cA]; rfl
  have eD : detR A = (detM A, 0) := by rw [detR, cA]; simp
  have c1 := Lib.hid (fun W (hW : Below V2.heap.size V2 W) => eC ▸ Char_any A va W (rA.out W hW))
  have c2 := Lib.hid (fun W (hW : Below V2.heap.size V2 W) => Det_any A va W (rA.out W hW))
  simp only [eD] at c2
  have c3 := Lib.hid (fun (e : Nat) (he : e < 100000) W (hW : Below V2.heap.size V2 W) => (powR_of okA.out hm1 (show m ≤ 12 by omega) (show e < 18446744073709551616 by omega)) ▸ Power_any A (e : Int) va W (rA.out W hW) (by omega))
  have okPw := Lib.hid (fun e => okM_powL okA.out hm1 e)
  have rd := Lib.hid (fun (X : List (List Int)) (hX : okM X m m) W base v (h : OwnM W base v X) => h.rdOk hX (show m ≤ 1000 by omega) (show m ≤ 1000 by omega))
  have hch := chL_ok okA.out hm1 (by omega)
  have hlast := chL_last okA.out hm1 (by omega)
  have bD := detM_bd A okA.out
  have q1 := Lib.hid (fun (X : List (List Int)) v u W (h1 : RdM W v X) (h2 : RdM W u X) => (decide_eq_true (show X = X from rfl)) ▸ EqRows_any X X v u W h1 h2)
  have s1 := Lib.hid (fun e v W (hv : RdM W v (powL A m e)) => shaped_any (powL A m e) m m v W hv (okPw.out e))
  have hres := Lib.hid (fun v W (hv : RdI W v (chL A)) => (isRes_of hch.2.1) ▸ residues_any (chL A) v W hv)
  have t1 := Lib.hid (fun v u W (h1 : RdM W v (powL A m N)) (h2 : RdM W u (powL A m ft)) => (show prodM (powL A m N) (powL A m ft) = powL A m N2 by rw [hN2, powL_add okA.out hm1]) ▸ times_any (powL A m N) (powL A m ft) m m m v u W (okPw.out _) (okPw.out _) (by omega) (by omega) (by omega) hm1 h1 h2)
  have hend := Lib.hid (show mat (cyE A m N m) m m = powL A m N by rw [hN]; exact cyE_end okA.out hm1 (by omega) fr)
  have hcl := hch.1
  have hcb : Hid (∀ k, 0 ≤ (chL A).getD k 0 ∧ (chL A).getD k 0 < 65521) := Lib.hid (fun k => by
    by_cases hk : k < (chL A).length
    · rw [List.getD_eq_getElem?_getD, List.getElem?_eq_getElem hk]; exact hch.2.1 _ (List.getElem_mem hk)
    · rw [List.getD_eq_getElem?_getD, List.getElem?_eq_none (by omega)]; decide)
  have hmb := Lib.hid (fun e => (okPw.out e).num)
  have cst := Lib.hid (fun k i j x y => cyP_put A m N k i j x y)
  clear cA eC eD hch
  go_wp2_with fail
  refine (c1.out V2 hP.out).mono ?_; rintro e P1 ⟨vc, rfl, oc, hN2⟩
  replace hT := Lib.hid (Below.then_ hT.out hN2)
  replace hP := Lib.hid (Below.then_ hP.out hN2)
  have z_P1 := hN2.size; clear hN2
  change OwnI _ _ _ (chL A) at oc
  have rc := Lib.hid (oc.rd (by omega))
  clear oc c1
  obtain ⟨x, hx⟩ : ∃ x, x = detM A := ⟨_, rfl⟩
  rw [← hx] at bD hlast
  replace hx := Lib.hid hx
  simp only [← hx.out] at c2
  go_wp2_with fail
  refine (c2.out P1 hP.out).mono ?_; rintro e P2 ⟨rfl, hN3⟩
  replace hT := Lib.hid (Below.then_ hT.out hN3)
  replace hP := Lib.hid (Below.then_ hP.out hN3)
  replace rc := Lib.hid (rc.out.below hN3 (Nat.le_refl _))
  have z_P2 := hN3.size; clear hN3
  obtain ⟨AC, cc, e0, -, -, -⟩ := rc.out.open_
  rw [hcl] at e0
  subst e0
  go_wp2_with fail
  refine (hres.out _ P2 rc.out).mono ?_; rintro e P3 ⟨rfl, hN4⟩
  replace hT := Lib.hid (Below.then_ hT.out hN4)
  replace hP := Lib.hid (Below.then_ hP.out hN4)
  replace rc := Lib.hid (rc.out.below hN4 (Nat.le_refl _))
  have z_P3 := hN4.size; clear hN4
  clear hres
  have w2 : (m : Int).tmod 2 = ((m % 2 : Nat) : Int) := by rw [Int.tmod_eq_emod_of_nonneg (by omega)]; omega
  obtain ⟨sg, hsg⟩ : ∃ sg : Int, sg = if m % 2 = 1 then 1 else 65520 := ⟨_, rfl⟩
  rw [← hsg] at hlast
  have sg1 : 0 ≤ sg ∧ sg ≤ 65520 := by rw [hsg]; split <;> decide
  replace hN := Lib.hid hN
  replace hN2 := Lib.hid hN2
  replace hcl := Lib.hid hcl
  go_upto_if 66 with fail
  go_cut [15] (fun s wx => s = .int .i64 sg ∧ wx = P3)
  case first =>
    by_cases hodd : m % 2 = 1
    · rw [if_pos hodd] at hsg
      subst hsg
      have ho : (((m % 2 : Nat) : Int) == 1) = true := by rw [beq_iff_eq]; omega
      go_wp2
      go_meet
      exact ⟨rfl, rfl⟩
    · rw [if_neg hodd] at hsg
      subst hsg
      have ho : (((m % 2 : Nat) : Int) == 1) = false := by rw [beq_eq_false_iff_ne]; omega
      go_wp2
      go_meet
      exact ⟨rfl, rfl⟩
  case rest =>
  clear hsg
  obtain ⟨rfl, hw⟩ := hcut
  obtain rfl : P3 = _ := hw.symm
  obtain ⟨A2, d2, ee, -, -, hcc⟩ := rc.out.open_
  simp only [Value.slice.injEq] at ee
  obtain ⟨rfl, -, rfl⟩ := ee
  obtain ⟨bc, oc, ec, hcm⟩ := hcc (m - 1) (by have := hcl.out; omega)
  clear hcc
  subst ec
  have em1 : (m : Int) - 1 = ((m - 1 : Nat) : Int) := by omega
  have m1 : ((m - 1 : Nat) : Int) < (m : Int) := by omega
  have m0 : (0 : Int) ≤ ((m - 1 : Nat) : Int) := by omega
  have hxm : 0 ≤ sg * x ∧ sg * x < 4294967296 := ⟨Int.mul_nonneg sg1.1 bD.1, by
    have h := Int.mul_le_mul sg1.2 (show x ≤ 65520 by omega) bD.1 (by decide)
    omega⟩
  have etm : (sg * x).tmod 65521 = sg * x % 65521 := Int.tmod_eq_emod_of_nonneg hxm.1
  rw [hlast] at hcm
  generalize hmk : m - 1 = mk at *
  replace hmk := Lib.hid hmk
  have c3N := Lib.hid (c3.out N (by omega))
  go_wp2_with fail
  refine (c3N.out P3 hP.out).mono ?_; rintro e P4 ⟨vh, rfl, oh, hN5⟩
  replace hT := Lib.hid (Below.then_ hT.out hN5)
  replace hP := Lib.hid (Below.then_ hP.out hN5)
  replace rc := Lib.hid (rc.out.below hN5 (Nat.le_refl _))
  have z_P4 := hN5.size; clear hN5
  change OwnM _ _ _ (powL A m N) at oh
  have rh := Lib.hid (rd.out _ (okPw.out _) _ _ _ oh)
  clear oh c3N hcm
  go_wp2_with fail
  refine (s1.out _ _ P4 rh.out).mono ?_; rintro e P5 ⟨rfl, hN6⟩
  replace hT := Lib.hid (Below.then_ hT.out hN6)
  replace hP := Lib.hid (Below.then_ hP.out hN6)
  replace rc := Lib.hid (rc.out.below hN6 (Nat.le_refl _))
  replace rh := Lib.hid (rh.out.below hN6 (Nat.le_refl _))
  have z_P5 := hN6.size; clear hN6
  have hM := run_make_row' (P := Tryd.prog) 22 23 _ _ Tryd.underlying22 infoR rfl .i64 .i64 m (by omega) (by omega)
  have hR := run_make_row' (P := Tryd.prog) 23 3 _ _ Tryd.underlying23 infoI rfl .i64 .i64 m (by omega) (by omega)
  have h0 := OwnM_made P5 P5.heap.size m (Nat.le_refl _) (by unfold maxLen; omega)
  have hz : (mat (fun _ _ => (0 : Int)) m m).length = m := mat_len _ _ _
  have hzr := Lib.hid (zero_rows m)
  have hze := Lib.hid (cyE_zero A m N m)
  rw [show List.replicate m ([] : List Int) = cpP (mat (fun _ _ => 0) m m) 0 by rw [cpP_zero, hz]] at h0
  generalize mat (fun _ _ => (0 : Int)) m m = Z at *
  replace hz := Lib.hid hz
  have hB0 : Hid (Below P5.heap.size P5 (P5.alloc (.cells (madeCells #[.slice none 0 0] m) 23))) := Lib.hid ((Below.refl _ _).alloc (Nat.le_refl _) _)
  replace h0 := Lib.hid h0
  have hP5 := Lib.hid hP.out
  have rc5 := Lib.hid rc.out
  have rh5 := Lib.hid rh.out
  have hT5 := Lib.hid hT.out
  obtain ⟨A3, d3, ee3, -, -, hcc'⟩ := rc5.out.open_
  simp only [Value.slice.injEq] at ee3
  obtain ⟨rfl, -, rfl⟩ := ee3
  replace hcc' := Lib.hid hcc'
  clear hP rc rh hT
  go_wp2
  generalize P5.alloc (.cells (madeCells #[.slice none 0 0] m) 23) = w1 at h0 hB0 ⊢
  go_loopw [19, 100] (fun _ ii wr => ∃ k : Nat, k ≤ m ∧ ii = .int .i64 k ∧ Hid (Below P5.heap.size P5 wr) ∧ Hid (OwnM wr P5.heap.size (.slice (some ⟨P5.heap.size, 0, none⟩) m m) (cpP Z k))) (fun _ ii _ => m - (intOf ii).toNat)
  case atStart => exact ⟨0, Nat.zero_le _, rfl, hB0, h0⟩
  case round =>
    obtain ⟨k, hk, rfl, hB, hO⟩ := hrel
    rename World => wr
    by_cases hlt : k < m
    · have k1 : (k : Int) < (m : Int) := by omega
      have k0 : (0 : Int) ≤ (k : Int) := by omega
      have hg0 := cpP_get Z (i := k) (by rw [hz.out]; exact hlt)
      obtain ⟨hge, hgs, u0, hc0, hf0, ho0, hub⟩ := hO.out.row' hg0
      have hBa : Below wr.heap.size wr (wr.alloc (.cells (madeCells #[.int .i64 0] m) 3)) := (Below.refl _ _).alloc (Nat.le_refl _) _
      have hor := OwnI_made wr wr.heap.size m (Nat.le_refl _) (by unfold maxLen; omega)
      rw [← hzr.out k hlt] at hor
      have hc2 := (hBa.cell (p := ⟨P5.heap.size, k, none⟩) hgs).trans hc0
      have hf2 := (hBa.frozen (p := ⟨P5.heap.size, k, none⟩) hgs).trans hf0
      have hup := hO.out.upd hg0 hc0 (grown_of_below hBa _) (hor.base (by omega)) (.inr (.inr ⟨wr.heap.size, rfl, Nat.le_refl _⟩))
      rw [cpP_set] at hup
      have hB2 := (Below.then_ hB.out hBa).setCell (p := ⟨P5.heap.size, k, none⟩) (Nat.le_refl _) (.slice (some ⟨wr.heap.size, 0, none⟩) m m)
      rw [World.setCell_alloc_past _ _ _ _ hgs] at hup hB2
      replace hup := Lib.hid hup
      replace hB2 := Lib.hid hB2
      replace ho0 := Lib.hid ho0
      replace hub := Lib.hid hub
      clear hO hB hor hBa hg0
      go_wp2
      go_roundw
      case rel => exact ⟨k + 1, by omega, by go_num, hB2, hup⟩
      case measure => simp [intOf]; omega
    · obtain rfl : k = m := by omega
      rw [show cpP Z k = Z by rw [← hz.out]; exact cpP_end Z, ← hze.out] at hO
      obtain ⟨vs, hv⟩ := hO.out.v
      have hge := Lib.hid hv.ge
      have hvl : Hid (vs.length = k) := Lib.hid (by have := hv.len; rwa [mat_len] at this)
      have hv' := Lib.hid hv
      have hB' := Lib.hid hB.out
      obtain ⟨Y0, rfl⟩ : ∃ Y0 : World, Y0 = wr := ⟨_, rfl⟩
      have toB : Hid (∀ W W', P5.heap.size ≤ W.heap.size → KeptBut vs W W' → Below P5.heap.size W W') := Lib.hid (fun W W' hz hK => hK.below hz (fun u hu q hq => (hge.out u hu q hq).1))
      clear hO hv hB hM hR
      go_wp2
      go_loopw [20, 21, 22, 23, 24, 25, 111, 136, 141] (fun _ _ _ _ _ _ ii _ _ wr => ∃ q : Nat, q ≤ k ∧ ii = .int .i64 q ∧ Y0.heap.size ≤ wr.heap.size ∧ Hid (Below P5.heap.size P5 wr) ∧ Hid (OwnMv wr P5.heap.size (.slice (some ⟨P5.heap.size, 0, none⟩) k k) (mat (cyE A k N q) k k) vs)) (fun _ _ _ _ _ _ ii _ _ _ => k - (intOf ii).toNat)
      case atStart => exact ⟨0, Nat.zero_le _, rfl, Nat.le_refl _, hB', hv'⟩
      case round =>
        obtain ⟨q, hq, rfl, hY, hB, hO⟩ := hrel
        rename World => wr
        by_cases hqm : q < k
        · have j1 : (q : Int) < (k : Int) := by omega
          have j0 : (0 : Int) ≤ (q : Int) := by omega
          obtain ⟨bc2, oc2, ec2, hcq⟩ := hcc'.out q (by have := hcl.out; omega)
          simp only [Option.some.injEq, Addr.mk.injEq, and_true] at ec2
          obtain ⟨rfl, rfl⟩ := ec2
          have hzw := hB.out.size
          have hz5 := hP5.out.size
          replace hcq := (hB.out.cell (World.block_lt_of_cell? P5 _ hcq)).trans hcq
          have hP := Lib.hid (hP5.out.trans (hB.out.mono hz5))
          obtain ⟨p, hp⟩ : ∃ p, p = N - 1 - q := ⟨_, rfl⟩
          have hpN : (N : Int) - 1 - (q : Int) = (p : Int) := by have := hN.out; omega
          have hp9 : p < 100000 := by have := hN.out; omega
          have hxq := hcb.out q
          have cq := Lib.hid (fun i j x y => cst.out q i j x y)
          have hstart := Lib.hid (cyP_start A k N q k)
          have hrow := Lib.hid (fun i => cyP_row A k N q i k)
          have hend2 := Lib.hid (cyP_end A k N q k)
          simp only [← hp] at cq
          replace hp := Lib.hid hp
          have c3p := Lib.hid (c3.out p hp9)
          generalize (chL A).getD q 0 = y at *
          go_wp2_with fail
          refine (c3p.out wr hP.out).mono ?_; rintro e X1 ⟨vl, rfl, ol, hN1⟩
          replace hP := Lib.hid (Below.then_ hP.out hN1)
          replace hB := Lib.hid (Below.then_ hB.out hN1)
          replace hO := Lib.hid (hO.out.kept hN1)
          have z_X1 := hN1.size; clear hN1
          change OwnM _ _ _ (powL A k p) at ol
          replace ol := Lib.hid ol
          clear c3p hcq
          go_wp2_with fail
          refine (s1.out _ _ X1 (rd.out _ (okPw.out _) _ _ _ ol.out)).mono ?_; rintro e X2 ⟨rfl, hN2⟩
          replace hP := Lib.hid (Below.then_ hP.out hN2)
          replace hB := Lib.hid (Below.then_ hB.out hN2)
          replace hO := Lib.hid (hO.out.kept hN2)
          replace ol := Lib.hid (ol.out.below hN2)
          have z_X2 := hN2.size; clear hN2
          obtain ⟨AL, cL, eL⟩ : ∃ AL cL, vl = .slice AL k cL := by
            obtain ⟨AL, cL, eL, -, -, -⟩ := (rd.out _ (okPw.out _) _ _ _ ol.out).open_
            rw [(okPw.out p).len] at eL
            exact ⟨AL, cL, eL⟩
          subst eL
          have hmp := Lib.hid (hmb.out p)
          rw [← hstart.out] at hO
          have hB2 := Lib.hid hB.out
          have hO2 := Lib.hid hO.out
          have hlow : Hid (∀ w4, KeptBut vs X2 w4 → ∀ i, i < k → ∃ bl ol, AL = some ⟨bl, ol, none⟩ ∧ ∃ Ai ci, w4.cell? ⟨bl, ol + i, none⟩ = some (.slice Ai k ci) ∧ k ≤ ci ∧ ∀ j, j < k → ∃ b2 o2, Ai = some ⟨b2, o2, none⟩ ∧ w4.cell? ⟨b2, o2 + j, none⟩ = some (.int .i64 (gM (powL A k p) i j))) := Lib.hid (fun w4 hK i hi => by
            have h4 := hK.ownM ol.out (fun u hu q hq => by have := (hge.out u hu q hq).2; omega)
            obtain ⟨A5, c5, e5, -, -, h5⟩ := (rd.out _ (okPw.out _) _ _ _ h4).open_
            simp only [Value.slice.injEq] at e5
            obtain ⟨rfl, -, rfl⟩ := e5
            obtain ⟨bl, ob, u, eb, hcu, hu⟩ := h5 i (by rw [(okPw.out p).len]; exact hi)
            obtain ⟨A6, c6, rfl, l1, -, h6⟩ := hu.open_
            rw [(okPw.out p).row hi] at hcu h6 l1
            exact ⟨bl, ob, eb, A6, c6, hcu, l1, fun j hj => h6 j hj⟩)
          have hsz2 : P5.heap.size ≤ X2.heap.size := hB2.out.size
          clear ol hO hB
          go_wp2
          go_loopw [24, 25, 136, 141] (fun _ _ ii _ w3 => ∃ i : Nat, i ≤ k ∧ ii = .int .i64 i ∧ Hid (KeptBut vs X2 w3) ∧ Hid (OwnMv w3 P5.heap.size (.slice (some ⟨P5.heap.size, 0, none⟩) k k) (mat (cyP A k N q i 0) k k) vs)) (fun _ _ ii _ _ => k - (intOf ii).toNat)
          case atStart => exact ⟨0, Nat.zero_le _, rfl, Lib.hid (KeptBut.refl _ _), hO2⟩
          case round =>
            obtain ⟨i, hi, rfl, hK, hM⟩ := hrel
            rename World => w3
            by_cases hik : i < k
            · have i1 : (i : Int) < (k : Int) := by omega
              have i0 : (0 : Int) ≤ (i : Int) := by omega
              go_wp2
              go_loopw [25, 141] (fun _ jj w4 => ∃ j : Nat, j ≤ k ∧ jj = .int .i64 j ∧ Hid (KeptBut vs X2 w4) ∧ Hid (OwnMv w4 P5.heap.size (.slice (some ⟨P5.heap.size, 0, none⟩) k k) (mat (cyP A k N q i j) k k) vs)) (fun _ jj _ => k - (intOf jj).toNat)
              case atStart => exact ⟨0, Nat.zero_le _, rfl, hK, hM⟩
              case round =>
                obtain ⟨j, hj, rfl, hK, hM⟩ := hrel
                rename World => w4
                by_cases hjk : j < k
                · have t1' : (j : Int) < (k : Int) := by omega
                  have t0' : (0 : Int) ≤ (j : Int) := by omega
                  obtain ⟨bl, ob, rfl, Ai, ci, hca, hci, hcj⟩ := hlow.out w4 hK.out i hik
                  obtain ⟨b2, o2, rfl, hcb⟩ := hcj j hjk
                  have hr := mat_get? (cyP A k N q i j) (n := k) (m := k) hik
                  have hiv : i < vs.length := by have := hvl.out; omega
                  have hu : vs[i]? = some vs[i] := List.getElem?_eq_getElem hiv
                  obtain ⟨g, c', eg, _, _, hc, hf⟩ := hM.out.at_ hr hu
                  rw [mat_len] at eg
                  simp only [Value.slice.injEq, Option.some.injEq, Addr.mk.injEq, and_true, true_and] at eg
                  obtain ⟨rfl, rfl⟩ := eg
                  obtain ⟨g1, c1', e1, _, _, hc1, hf1⟩ := hM.out.num hr hu (k := j) (by simp; exact hjk)
                  have hlr : ((List.range k).map (cyP A k N q i j i)).length = k := by simp
                  rw [hlr] at e1
                  rw [e1] at hc hu
                  have hget : ((List.range k).map (cyP A k N q i j i)).getD j 0 = cyE A k N q i j := by
                    rw [List.getD_eq_getElem?_getD, List.getElem?_map, List.getElem?_range hjk]
                    show cyP A k N q i j i j = _
                    rw [cyP, if_neg (by omega)]
                  rw [hget] at hc1
                  have hput := (hM.out.kept ((Below.refl w4.heap.size w4).drew)).put hr hu (k := j) ((cyE A k N q i j + y * gM (powL A k p) i j) % 65521)
                  rw [mat_put (cyP A k N q i j) (cyP A k N q i (j + 1)) _ (fun x y _ _ => cq.out i j x y)] at hput
                  have hput2 := Lib.hid hput.1
                  have hK2 := Lib.hid (hK.out.drew.trans hput.2)
                  have ⟨s1', s2'⟩ := cyE_bd A k N q i j
                  have ⟨n3, n4⟩ := hmp.out i j
                  have ⟨m1', m2'⟩ := mul_bd hxq.1 hxq.2 n3 n4
                  clear hput hr hu hM e1 hlr hget hiv hcj hK
                  generalize cyE A k N q i j = S at *
                  generalize gM (powL A k p) i j = z at *
                  have w3' : IntKind.i64.wrap (y * z) = y * z := IntWalk.i64_in _ ⟨by omega, by omega⟩
                  have w4' : IntKind.i64.wrap (S + y * z) = S + y * z := IntWalk.i64_in _ ⟨by omega, by omega⟩
                  have w5' : (S + y * z).tmod 65521 = (S + y * z) % 65521 := Int.tmod_eq_emod_of_nonneg (by omega)
                  go_wp2
                  go_still_tail 24, (by kernel_rfl)
                  change wpList _ _ _ _ _ w4.drew
                  replace hc1 : w4.drew.cell? _ = _ := hc1
                  replace hf1 : w4.drew.frozen? _ = _ := hf1
                  clear hc hca hcb hf
                  generalize w4.drew = wd at hc1 hf1 hput2 hK2 ⊢
                  go_wp2
                  go_roundw
                  case rel => exact ⟨j + 1, by omega, by go_num, hK2, hput2⟩
                  case measure => simp [intOf]; omega
                · obtain rfl : j = k := by omega
                  go_wp2
                  go_roundw
                  case rel => exact ⟨i + 1, by omega, by go_num, hK, by rw [← hrow.out]; exact hM⟩
                  case measure => simp [intOf]; omega
            · obtain rfl : i = k := by omega
              have hBk := toB.out X2 w3 hsz2 hK.out
              have hB3 := Lib.hid (hB2.out.trans hBk)
              have hY3 : Y0.heap.size ≤ w3.heap.size := Nat.le_trans (by omega) hBk.size
              clear hBk
              go_wp2
              go_roundw
              case rel => exact ⟨q + 1, by omega, by go_num, hY3, hB3, by rw [← hend2.out]; exact hM⟩
              case measure => simp [intOf]; omega
        · obtain rfl : q = k := by omega
          rw [hend.out] at hO
          have rS := Lib.hid (rd.out _ (okPw.out N) _ _ _ hO.out.m)
          have hz5 := hP5.out.size
          have hP := Lib.hid (hP5.out.trans (hB.out.mono hz5))
          have rh := Lib.hid (rh5.out.below hB.out (Nat.le_refl _))
          have hT := Lib.hid (hT5.out.trans (hB.out.mono hT5.out.size))
          have cF := Lib.hid (c3.out ft (by omega))
          have cG := Lib.hid (c3.out N2 (by have := hN.out; have := hN2.out; omega))
          clear hO hB hend
          go_wp2_with fail
          refine (cF.out wr hP.out).mono ?_; rintro e Y1 ⟨vp, rfl, op, hN1⟩
          replace hP := Lib.hid (Below.then_ hP.out hN1)
          replace hT := Lib.hid (Below.then_ hT.out hN1)
          replace rS := Lib.hid (rS.out.below hN1 (Nat.le_refl _))
          replace rh := Lib.hid (rh.out.below hN1 (Nat.le_refl _))
          have z_Y1 := hN1.size; clear hN1
          change OwnM _ _ _ (powL A q ft) at op
          have rp := Lib.hid (rd.out _ (okPw.out _) _ _ _ op)
          clear op cF
          go_wp2_with fail
          refine (cG.out Y1 hP.out).mono ?_; rintro e Y2 ⟨vq, rfl, oq, hN2⟩
          replace hP := Lib.hid (Below.then_ hP.out hN2)
          replace hT := Lib.hid (Below.then_ hT.out hN2)
          replace rS := Lib.hid (rS.out.below hN2 (Nat.le_refl _))
          replace rh := Lib.hid (rh.out.below hN2 (Nat.le_refl _))
          replace rp := Lib.hid (rp.out.below hN2 (Nat.le_refl _))
          have z_Y2 := hN2.size; clear hN2
          change OwnM _ _ _ (powL A q N2) at oq
          have rq := Lib.hid (rd.out _ (okPw.out _) _ _ _ oq)
          clear oq cG
          go_wp2_with fail
          refine (q1.out _ _ _ Y2 rS.out rh.out).mono ?_; rintro e Y3 ⟨rfl, hN3⟩
          replace hP := Lib.hid (Below.then_ hP.out hN3)
          replace hT := Lib.hid (Below.then_ hT.out hN3)
          replace rS := Lib.hid (rS.out.below hN3 (Nat.le_refl _))
          replace rh := Lib.hid (rh.out.below hN3 (Nat.le_refl _))
          replace rp := Lib.hid (rp.out.below hN3 (Nat.le_refl _))
          replace rq := Lib.hid (rq.out.below hN3 (Nat.le_refl _))
          have z_Y3 := hN3.size; clear hN3
          go_wp2_with fail
          refine (s1.out _ _ Y3 rp.out).mono ?_; rintro e Y4 ⟨rfl, hN4⟩
          replace hP := Lib.hid (Below.then_ hP.out hN4)
          replace hT := Lib.hid (Below.then_ hT.out hN4)
          replace rS := Lib.hid (rS.out.below hN4 (Nat.le_refl _))
          replace rh := Lib.hid (rh.out.below hN4 (Nat.le_refl _))
          replace rp := Lib.hid (rp.out.below hN4 (Nat.le_refl _))
          replace rq := Lib.hid (rq.out.below hN4 (Nat.le_refl _))
          have z_Y4 := hN4.size; clear hN4
          go_wp2_with fail
          refine (t1.out _ _ Y4 rh.out rp.out).mono ?_; rintro e Y5 ⟨⟨vt, rfl, ot⟩, hN5⟩
          replace hP := Lib.hid (Below.then_ hP.out hN5)
          replace hT := Lib.hid (Below.then_ hT.out hN5)
          replace rS := Lib.hid (rS.out.below hN5 (Nat.le_refl _))
          replace rh := Lib.hid (rh.out.below hN5 (Nat.le_refl _))
          replace rp := Lib.hid (rp.out.below hN5 (Nat.le_refl _))
          replace rq := Lib.hid (rq.out.below hN5 (Nat.le_refl _))
          have z_Y5 := hN5.size; clear hN5
          have rt := Lib.hid (rd.out _ (okPw.out _) _ _ _ ot)
          clear ot
          go_wp2_with fail
          refine (q1.out _ _ _ Y5 rt.out rq.out).mono ?_; rintro e Y6 ⟨rfl, hN6⟩
          replace hP := Lib.hid (Below.then_ hP.out hN6)
          replace hT := Lib.hid (Below.then_ hT.out hN6)
          replace rS := Lib.hid (rS.out.below hN6 (Nat.le_refl _))
          replace rh := Lib.hid (rh.out.below hN6 (Nat.le_refl _))
          replace rp := Lib.hid (rp.out.below hN6 (Nat.le_refl _))
          replace rq := Lib.hid (rq.out.below hN6 (Nat.le_refl _))
          replace rt := Lib.hid (rt.out.below hN6 (Nat.le_refl _))
          have z_Y6 := hN6.size; clear hN6
          go_wp2_with fail
          refine (hA.out Y6 hT.out).mono ?_; rintro e V7 ⟨rfl, hN7⟩
          replace hP := Lib.hid (Below.then_ hP.out hN7)
          replace hT := Lib.hid (Below.then_ hT.out hN7)
          replace rS := Lib.hid (rS.out.below hN7 (Nat.le_refl _))
          replace rh := Lib.hid (rh.out.below hN7 (Nat.le_refl _))
          replace rp := Lib.hid (rp.out.below hN7 (Nat.le_refl _))
          replace rq := Lib.hid (rq.out.below hN7 (Nat.le_refl _))
          replace rt := Lib.hid (rt.out.below hN7 (Nat.le_refl _))
          clear hN7
          go_wp2
          go_ret
          exact ⟨rfl, hT.out⟩
end Go.Proofs.YtfljkcmijnhgkaaDoor
