/- FieldInverse: its contract. -/
import Derived.Test.YtfljkcmijnhgkaaDoorKzb
import Derived.Test.YtfljkcmijnhgkaaDoorKzc
import Derived.Test.YtfljkcmijnhgkaaDoorKi
import Derived.Test.YtfljkcmijnhgkaaDoorKg
import Derived.Test.YtfljkcmijnhgkaaDoorKh
import Derived.Test.YtfljkcmijnhgkaaDoorKn
namespace Go.Proofs.YtfljkcmijnhgkaaDoor
open Go.RowKit Go.Shelf
set_option linter.unusedSimpArgs false

theorem residues_two (x y : Int) (W : World) (hx : 0 ≤ x ∧ x < 65521) (hy : 0 ≤ y ∧ y < 65521) :
    Calls Tryd.prog 29 #[.slice (some ⟨W.heap.size, 0, none⟩) 2 2] (W.alloc (.cells #[.int .i64 x, .int .i64 y] 3)) fun e w' => e = .returned (.bool true) ∧ Below W.heap.size W w' := by
  have hr : RdI (W.alloc (.cells #[.int .i64 x, .int .i64 y] 3)) (.slice (some ⟨W.heap.size, 0, none⟩) 2 2) [x, y] := by
    have hg : (W.alloc (.cells #[.int .i64 x, .int .i64 y] 3)).heap[W.heap.size]? = some (.cells #[.int .i64 x, .int .i64 y] 3 (0, 0)) := heap_alloc_new _ _
    refine ⟨some ⟨W.heap.size, 0, none⟩, 2, rfl, Nat.le_refl _, by simp [ints], fun _ => ⟨W.heap.size, 0, rfl, fun j u hu => ?_⟩⟩
    unfold World.cell?
    rw [hg]
    match j, hu with
    | 0, hu => exact hu
    | 1, hu => exact hu
    | j + 2, hu => simp [ints] at hu
  have hc := residues_any [x, y] _ _ hr
  rw [isRes_of (fun u hu => by
    rcases List.mem_cons.1 hu with rfl | hu
    · exact hx
    · rw [List.mem_singleton.1 hu]; exact hy)] at hc
  refine hc.mono ?_
  rintro e w' ⟨he, hb⟩
  exact ⟨he, Below.then_ ((Below.refl _ _).alloc (Nat.le_refl _) _) hb⟩
set_option maxRecDepth 100000 in
set_option maxHeartbeats 3200000 in
theorem FieldInverse_any (sz n1 n2 : Nat) (v1 v2 : Value) (w : World) (h1 : RdB w w.heap.size v1 n1) (h2 : RdB w w.heap.size v2 n2) (hsz : sz < 256) (hJ : Joins w) :
    Calls Tryd.prog 12 #[v1, v2, .int .u8 sz] w fun e w' => e = .returned (.bool true) ∧ Below w.heap.size w w' := by
  have hA := Lib.hid (fun W (hW : Below w.heap.size w W) => awake_any W (hJ.below hW))
  have f1 := Lib.hid (Fill_any n1 v1 w h1)
  have f2 := Lib.hid (fun W (hW : Below w.heap.size w W) => Fill_any n2 v2 W ((h2.below hW (Nat.le_refl _)).mono hW.size))
  have hT := Lib.hid (Below.refl w.heap.size w)
  obtain ⟨m, hm⟩ : ∃ m, m = sz % 8 + 1 := ⟨_, rfl⟩
  have hm1 : 0 < m := by omega
  have hm2 : m ≤ 8 := by omega
  have e8 : (sz : Int).tmod 8 = ((sz % 8 : Nat) : Int) := by rw [Int.tmod_eq_emod_of_nonneg (by omega)]; omega
  have e9 : ((sz % 8 : Nat) : Int) + 1 = (m : Int) := by omega
  have w9 : IntKind.i64.wrap (m : Int) = (m : Int) := IntWalk.i64_in _ ⟨by omega, by omega⟩
  have ws : IntKind.i64.wrap (sz : Int) = (sz : Int) := IntWalk.i64_in _ ⟨by omega, by omega⟩
  generalize sz % 8 = s8 at *
  replace hm := Lib.hid hm
  clear h1 h2 hJ
  go_enter Tryd.func12, Tryd.ntmps12
  go_wp2_with fail
  refine (f1.out).mono ?_; rintro e V1 ⟨rfl, hS, hN1⟩
  replace hT := Lib.hid (Below.then_ hT.out hN1)
  have z_V1 := hN1.size; clear hN1
  replace hS := Lib.hid hS
  go_wp2_with fail
  refine (matrix_any w.heap.size 0 m m V1 hS.out (by omega) hm1 (by omega) hm1 (by omega)).mono ?_; rintro e V2 ⟨⟨va, A, rfl, okA, oA⟩, -, hB2⟩
  have rA0 := Lib.hid (oA.rdOk okA (by omega) (by omega))
  replace okA := Lib.hid okA
  replace hT := Lib.hid (hT.out.trans ((hB2.below (by omega)).mono (by omega)))
  have z_V2 := hB2.size; clear hB2
  clear oA hS f1
  have hP := Lib.hid (Below.refl V2.heap.size V2)
  go_wp2_with fail
  refine (f2.out V2 hT.out).mono ?_; rintro e V3 ⟨rfl, hS, hN2⟩
  replace hT := Lib.hid (Below.then_ hT.out hN2)
  replace hP := Lib.hid (Below.then_ hP.out hN2)
  have z_V3 := hN2.size; clear hN2
  replace hS := Lib.hid hS
  go_wp2_with fail
  refine (matrix_any V2.heap.size 0 m m V3 hS.out (by omega) hm1 (by omega) hm1 (by omega)).mono ?_; rintro e V4 ⟨⟨vb, B, rfl, okB, oB⟩, -, hB4⟩
  have rB0 := Lib.hid (oB.rdOk okB (by omega) (by omega))
  replace okB := Lib.hid okB
  replace hT := Lib.hid (hT.out.trans ((hB4.below (by omega)).mono (by omega)))
  replace hP := Lib.hid (hP.out.trans ((hB4.below (by omega)).mono (by omega)))
  have z_V4 := hB4.size; clear hB4
  clear oB hS f2
  have rA1 := Lib.hid (rA0.out.below hP.out (Nat.le_refl _))
  clear hP
  clear rA0
  have hP := Lib.hid (Below.refl V4.heap.size V4)
  have rA := Lib.hid (fun W (hW : Below V4.heap.size V4 W) => rA1.out.below hW (Nat.le_refl _))
  have rB := Lib.hid (fun W (hW : Below V4.heap.size V4 W) => rB0.out.below hW (Nat.le_refl _))
  have okP := Lib.hid (okM_prodn okA.out okB.out hm1)
  have okQ := Lib.hid (okM_prodn okP.out okA.out hm1)
  have okBA := Lib.hid (okM_prodn okB.out okA.out hm1)
  have cA := squareM_of okA.out hm1 (by omega)
  have kA := checkM_of okA.out hm1 (by omega) hm1 (by omega)
  have cB := squareM_of okB.out hm1 (by omega)
  have kB := checkM_of okB.out hm1 (by omega) hm1 (by omega)
  have cP := squareM_of okP.out hm1 (by omega)
  have kP := checkM_of okP.out hm1 (by omega) hm1 (by omega)
  have lA := okA.out.len0 hm1
  have lP := okP.out.len0 hm1
  have eP : mulR A B = (0, prodM A B) := by rw [mulR, kA, kB, lA, okB.out.1]; simp
  have eQ : mulR (prodM A B) A = (0, prodM A (prodM B A)) := by rw [mulR, kP, kA, lP, okA.out.1, prodM_assoc okA.out okB.out okA.out hm1]; simp
  have eK : rankR A = (((solveS A (List.range m) false).piv.length : Int), 0) := by rw [rankR, kA, lA]; simp
  have eX : detR A = (detM A, 0) := by rw [detR, cA]; simp
  have eY : detR B = (detM B, 0) := by rw [detR, cB]; simp
  have eZ : detR (prodM A B) = (detM A * detM B % 65521, 0) := by rw [detR, cP, detM_prod okA.out okB.out hm1]; simp
  have c1 := Lib.hid (fun W (hW : Below V4.heap.size V4 W) => Mul_any A B va vb W (rA.out W hW) (rB.out W hW))
  have c2 := Lib.hid (fun W (hW : Below V4.heap.size V4 W) => Rank_any A va W (rA.out W hW))
  have c3 := Lib.hid (fun W (hW : Below V4.heap.size V4 W) => Det_any A va W (rA.out W hW))
  have c4 := Lib.hid (fun W (hW : Below V4.heap.size V4 W) => Det_any B vb W (rB.out W hW))
  have c5 := Lib.hid (fun W (hW : Below V4.heap.size V4 W) => times_any A B m m m va vb W okA.out okB.out (by omega) (by omega) (by omega) hm1 (rA.out W hW) (rB.out W hW))
  have c6 := Lib.hid (fun v W (hv : RdM W v (prodM A B)) => Det_any (prodM A B) v W hv)
  have c7 := Lib.hid (fun v W (hv : RdM W v (prodM A B)) (hW : Below V4.heap.size V4 W) => Mul_any (prodM A B) A v va W hv (rA.out W hW))
  have c8 := Lib.hid (fun W (hW : Below V4.heap.size V4 W) => Inverse_any A va W (rA.out W hW))
  have c9 := Lib.hid (fun W (hW : Below V4.heap.size V4 W) => times_any B A m m m vb va W okB.out okA.out (by omega) (by omega) (by omega) hm1 (rB.out W hW) (rA.out W hW))
  have c10 := Lib.hid (fun v W (hv : RdM W v (prodM B A)) (hW : Below V4.heap.size V4 W) => times_any A (prodM B A) m m m va v W okA.out okBA.out (by omega) (by omega) (by omega) hm1 (rA.out W hW) hv)
  rw [eP] at c1
  simp only [eK, eX] at c2 c3
  simp only [eY] at c4
  simp only [eZ] at c6
  simp only [eQ] at c7
  have okQ2 := Lib.hid (okM_prodn okA.out okBA.out hm1)
  have rd := Lib.hid (fun (X : List (List Int)) (hX : okM X m m) W base v (h : OwnM W base v X) => h.rdOk hX (show m ≤ 1000 by omega) (show m ≤ 1000 by omega))
  have bA := detM_bd A okA.out
  have bB := detM_bd B okB.out
  have q1 := Lib.hid (fun (X : List (List Int)) v u W (h1 : RdM W v X) (h2 : RdM W u X) => (decide_eq_true (show X = X from rfl)) ▸ EqRows_any X X v u W h1 h2)
  have kle := rank_bd okA.out
  have kdet := Lib.hid (rank_det okA.out)
  clear cA kA cB kB cP kP lA lP eP eQ eK eX eY eZ
  have hxy := mul_bd bA.1 bA.2 bB.1 bB.2
  generalize (solveS A (List.range m) false).piv.length = k at *
  have k0 : (0 : Int) ≤ (k : Int) := by omega
  have k1 : ¬ (m : Int) < (k : Int) := by omega
  have hres := Lib.hid (fun W => residues_two (detM A) (detM B) W bA bB)
  obtain ⟨x, hx⟩ : ∃ x, x = detM A := ⟨_, rfl⟩
  obtain ⟨y, hy⟩ : ∃ y, y = detM B := ⟨_, rfl⟩
  rw [← hx] at bA hxy
  rw [← hy] at bB hxy
  simp only [← hx, ← hy] at c3 c4 c6 hres kdet
  replace hx := Lib.hid hx
  replace hy := Lib.hid hy
  go_wp2_with fail
  refine (c1.out V4 hP.out).mono ?_; rintro e P1 ⟨vp, rfl, op, hN3⟩
  replace hT := Lib.hid (Below.then_ hT.out hN3)
  replace hP := Lib.hid (Below.then_ hP.out hN3)
  have z_P1 := hN3.size; clear hN3
  change OwnM _ _ _ (prodM A B) at op
  have rp := Lib.hid (rd.out _ okP.out _ _ _ op)
  clear op c1
  go_wp2_with fail
  refine (c2.out P1 hP.out).mono ?_; rintro e P2 ⟨rfl, hN4⟩
  replace hT := Lib.hid (Below.then_ hT.out hN4)
  replace hP := Lib.hid (Below.then_ hP.out hN4)
  replace rp := Lib.hid (rp.out.below hN4 (Nat.le_refl _))
  have z_P2 := hN4.size; clear hN4
  go_wp2_with fail
  refine (c3.out P2 hP.out).mono ?_; rintro e P3 ⟨rfl, hN5⟩
  replace hT := Lib.hid (Below.then_ hT.out hN5)
  replace hP := Lib.hid (Below.then_ hP.out hN5)
  replace rp := Lib.hid (rp.out.below hN5 (Nat.le_refl _))
  have z_P3 := hN5.size; clear hN5
  go_wp2_with fail
  refine (c4.out P3 hP.out).mono ?_; rintro e P4 ⟨rfl, hN6⟩
  replace hT := Lib.hid (Below.then_ hT.out hN6)
  replace hP := Lib.hid (Below.then_ hP.out hN6)
  replace rp := Lib.hid (rp.out.below hN6 (Nat.le_refl _))
  have z_P4 := hN6.size; clear hN6
  clear c2 c3 c4
  go_wp2_with fail
  refine (c5.out P4 hP.out).mono ?_; rintro e P5 ⟨⟨vt, rfl, ot⟩, hN7⟩
  replace hT := Lib.hid (Below.then_ hT.out hN7)
  replace hP := Lib.hid (Below.then_ hP.out hN7)
  replace rp := Lib.hid (rp.out.below hN7 (Nat.le_refl _))
  have z_P5 := hN7.size; clear hN7
  have rt := Lib.hid (rd.out _ okP.out _ _ _ ot)
  clear ot c5
  go_wp2_with fail
  refine (q1.out _ _ _ P5 rp.out rt.out).mono ?_; rintro e P6 ⟨rfl, hN8⟩
  replace hT := Lib.hid (Below.then_ hT.out hN8)
  replace hP := Lib.hid (Below.then_ hP.out hN8)
  replace rp := Lib.hid (rp.out.below hN8 (Nat.le_refl _))
  replace rt := Lib.hid (rt.out.below hN8 (Nat.le_refl _))
  have z_P6 := hN8.size; clear hN8
  clear rt
  go_wp2_with fail
  refine (hres.out P6).mono ?_; rintro e P7 ⟨rfl, hN9⟩
  replace hT := Lib.hid (Below.then_ hT.out hN9)
  replace hP := Lib.hid (Below.then_ hP.out hN9)
  replace rp := Lib.hid (rp.out.below hN9 (Nat.le_refl _))
  have z_P7 := hN9.size; clear hN9
  clear hres
  go_wp2_with fail
  refine (c6.out _ P7 rp.out).mono ?_; rintro e P8 ⟨rfl, hN10⟩
  replace hT := Lib.hid (Below.then_ hT.out hN10)
  replace hP := Lib.hid (Below.then_ hP.out hN10)
  replace rp := Lib.hid (rp.out.below hN10 (Nat.le_refl _))
  have z_P8 := hN10.size; clear hN10
  go_wp2_with fail
  refine (c7.out _ P8 rp.out hP.out).mono ?_; rintro e P9 ⟨vq, rfl, oq, hN11⟩
  replace hT := Lib.hid (Below.then_ hT.out hN11)
  replace hP := Lib.hid (Below.then_ hP.out hN11)
  replace rp := Lib.hid (rp.out.below hN11 (Nat.le_refl _))
  have z_P9 := hN11.size; clear hN11
  clear rp
  change OwnM _ _ _ (prodM A (prodM B A)) at oq
  have rq := Lib.hid (rd.out _ okQ2.out _ _ _ oq)
  clear oq c6 c7
  have e1 : (x * y).tmod 65521 = x * y % 65521 := Int.tmod_eq_emod_of_nonneg (by omega)
  by_cases hd : x = 0
  · have hk : k ≠ m := fun e => (kdet.out).1 e hd
    have hki : ((k : Int) == (m : Int)) = false := by rw [beq_eq_false_iff_ne]; omega
    rw [invMR_none okA.out hm1 (by omega) (by rw [← hx.out]; exact hd)] at c8
    subst hd
    go_wp2_with fail
    refine (c8.out P9 hP.out).mono ?_; rintro e P10 ⟨vi, rfl, ri, fi, hN12⟩
    replace hT := Lib.hid (Below.then_ hT.out hN12)
    replace hP := Lib.hid (Below.then_ hP.out hN12)
    replace rq := Lib.hid (rq.out.below hN12 (Nat.le_refl _))
    have z_P10 := hN12.size; clear hN12
    clear ri fi c8
    go_wp2_with fail
    refine (c9.out P10 hP.out).mono ?_; rintro e P11 ⟨⟨vu, rfl, ou⟩, hN13⟩
    replace hT := Lib.hid (Below.then_ hT.out hN13)
    replace hP := Lib.hid (Below.then_ hP.out hN13)
    replace rq := Lib.hid (rq.out.below hN13 (Nat.le_refl _))
    have z_P11 := hN13.size; clear hN13
    have ru := Lib.hid (rd.out _ okBA.out _ _ _ ou)
    clear ou
    go_wp2_with fail
    refine (c10.out _ P11 ru.out hP.out).mono ?_; rintro e P12 ⟨⟨vs, rfl, os⟩, hN14⟩
    replace hT := Lib.hid (Below.then_ hT.out hN14)
    replace hP := Lib.hid (Below.then_ hP.out hN14)
    replace rq := Lib.hid (rq.out.below hN14 (Nat.le_refl _))
    replace ru := Lib.hid (ru.out.below hN14 (Nat.le_refl _))
    have z_P12 := hN14.size; clear hN14
    clear ru
    have rs := Lib.hid (rd.out _ okQ2.out _ _ _ os)
    clear os
    go_wp2_with fail
    refine (q1.out _ _ _ P12 rq.out rs.out).mono ?_; rintro e P13 ⟨rfl, hN15⟩
    replace hT := Lib.hid (Below.then_ hT.out hN15)
    replace hP := Lib.hid (Below.then_ hP.out hN15)
    replace rq := Lib.hid (rq.out.below hN15 (Nat.le_refl _))
    replace rs := Lib.hid (rs.out.below hN15 (Nat.le_refl _))
    have z_P13 := hN15.size; clear hN15
    go_wp2_with fail
    refine (hA.out P13 hT.out).mono ?_; rintro e V16 ⟨rfl, hN16⟩
    replace hT := Lib.hid (Below.then_ hT.out hN16)
    replace hP := Lib.hid (Below.then_ hP.out hN16)
    replace rq := Lib.hid (rq.out.below hN16 (Nat.le_refl _))
    replace rs := Lib.hid (rs.out.below hN16 (Nat.le_refl _))
    clear hN16
    go_wp2
    go_ret
    exact ⟨rfl, hT.out⟩
  · have hk : k = m := Classical.byContradiction fun e => e (kdet.out.2 hd)
    have hdA : detM A ≠ 0 := by rw [← hx.out]; exact hd
    have hxb : (x == 0) = false := by rw [beq_eq_false_iff_ne]; exact hd
    have hxn : (x != 0) = true := by rw [bne_iff_ne]; exact hd
    rw [invMR_some okA.out hm1 (by omega) hdA] at c8
    subst hk
    have okV := Lib.hid (okM_invM okA.out)
    have eV : invMR (invM A) = (0, A) := by rw [invMR_some okV.out hm1 (by omega) (det_invM okA.out hm1 hdA), inv_inv okA.out hm1 hdA]
    have d1 := Lib.hid (fun v W (hv : RdM W v (invM A)) => eV ▸ Inverse_any (invM A) v W hv)
    have d2 := Lib.hid (fun v W (hv : RdM W v (invM A)) (hW : Below V4.heap.size V4 W) => (prod_inv okA.out hm1 hdA) ▸ times_any A (invM A) k k k va v W okA.out okV.out (by omega) (by omega) (by omega) hm1 (rA.out W hW) hv)
    have d3 := Lib.hid (fun v W (hv : RdM W v (invM A)) (hW : Below V4.heap.size V4 W) => (inv_prod okA.out hm1 hdA) ▸ times_any (invM A) A k k k v va W okV.out okA.out (by omega) (by omega) (by omega) hm1 hv (rA.out W hW))
    have d4 := Lib.hid (fun v W (hv : RdM W v (invM A)) => shaped_any (invM A) k k v W hv okV.out)
    have d5 := Lib.hid (fun W => one_any k W (by omega))
    clear eV
    go_wp2_with fail
    refine (c8.out P9 hP.out).mono ?_; rintro e R10 ⟨vi, rfl, ri, fi, hN1⟩
    replace hT := Lib.hid (Below.then_ hT.out hN1)
    replace hP := Lib.hid (Below.then_ hP.out hN1)
    replace rq := Lib.hid (rq.out.below hN1 (Nat.le_refl _))
    have z_R10 := hN1.size; clear hN1
    clear fi c8
    replace ri := Lib.hid ri
    go_wp2_with fail
    refine (c9.out R10 hP.out).mono ?_; rintro e R11 ⟨⟨vu, rfl, ou⟩, hN2⟩
    replace hT := Lib.hid (Below.then_ hT.out hN2)
    replace hP := Lib.hid (Below.then_ hP.out hN2)
    replace rq := Lib.hid (rq.out.below hN2 (Nat.le_refl _))
    replace ri := Lib.hid (ri.out.below hN2 (Nat.le_refl _))
    have z_R11 := hN2.size; clear hN2
    have ru := Lib.hid (rd.out _ okBA.out _ _ _ ou)
    clear ou
    go_wp2_with fail
    refine (c10.out _ R11 ru.out hP.out).mono ?_; rintro e R12 ⟨⟨vs, rfl, os⟩, hN3⟩
    replace hT := Lib.hid (Below.then_ hT.out hN3)
    replace hP := Lib.hid (Below.then_ hP.out hN3)
    replace rq := Lib.hid (rq.out.below hN3 (Nat.le_refl _))
    replace ri := Lib.hid (ri.out.below hN3 (Nat.le_refl _))
    replace ru := Lib.hid (ru.out.below hN3 (Nat.le_refl _))
    have z_R12 := hN3.size; clear hN3
    clear ru
    have rs := Lib.hid (rd.out _ okQ2.out _ _ _ os)
    clear os
    go_wp2_with fail
    refine (q1.out _ _ _ R12 rq.out rs.out).mono ?_; rintro e R13 ⟨rfl, hN4⟩
    replace hT := Lib.hid (Below.then_ hT.out hN4)
    replace hP := Lib.hid (Below.then_ hP.out hN4)
    replace rq := Lib.hid (rq.out.below hN4 (Nat.le_refl _))
    replace ri := Lib.hid (ri.out.below hN4 (Nat.le_refl _))
    replace rs := Lib.hid (rs.out.below hN4 (Nat.le_refl _))
    have z_R13 := hN4.size; clear hN4
    clear rq rs
    go_wp2_with fail
    refine (d1.out _ R13 ri.out).mono ?_; rintro e R14 ⟨vw, rfl, rw, fw, hN5⟩
    replace hT := Lib.hid (Below.then_ hT.out hN5)
    replace hP := Lib.hid (Below.then_ hP.out hN5)
    replace ri := Lib.hid (ri.out.below hN5 (Nat.le_refl _))
    have z_R14 := hN5.size; clear hN5
    clear fw
    replace rw := Lib.hid rw
    go_wp2_with fail
    refine (d4.out _ R14 ri.out).mono ?_; rintro e R15 ⟨rfl, hN6⟩
    replace hT := Lib.hid (Below.then_ hT.out hN6)
    replace hP := Lib.hid (Below.then_ hP.out hN6)
    replace ri := Lib.hid (ri.out.below hN6 (Nat.le_refl _))
    replace rw := Lib.hid (rw.out.below hN6 (Nat.le_refl _))
    have z_R15 := hN6.size; clear hN6
    go_wp2_with fail
    refine (d2.out _ R15 ri.out hP.out).mono ?_; rintro e R16 ⟨⟨vt, rfl, ot⟩, hN7⟩
    replace hT := Lib.hid (Below.then_ hT.out hN7)
    replace hP := Lib.hid (Below.then_ hP.out hN7)
    replace ri := Lib.hid (ri.out.below hN7 (Nat.le_refl _))
    replace rw := Lib.hid (rw.out.below hN7 (Nat.le_refl _))
    have z_R16 := hN7.size; clear hN7
    have rt := Lib.hid (rd.out _ (okM_id k) _ _ _ ot)
    clear ot
    go_wp2_with fail
    refine (d5.out R16).mono ?_; rintro e R17 ⟨⟨vo, rfl, oo⟩, hN8⟩
    replace hT := Lib.hid (Below.then_ hT.out hN8)
    replace hP := Lib.hid (Below.then_ hP.out hN8)
    replace ri := Lib.hid (ri.out.below hN8 (Nat.le_refl _))
    replace rw := Lib.hid (rw.out.below hN8 (Nat.le_refl _))
    replace rt := Lib.hid (rt.out.below hN8 (Nat.le_refl _))
    have z_R17 := hN8.size; clear hN8
    have ro := Lib.hid (rd.out _ (okM_id k) _ _ _ oo)
    clear oo
    go_wp2_with fail
    refine (q1.out _ _ _ R17 rt.out ro.out).mono ?_; rintro e R18 ⟨rfl, hN9⟩
    replace hT := Lib.hid (Below.then_ hT.out hN9)
    replace hP := Lib.hid (Below.then_ hP.out hN9)
    replace ri := Lib.hid (ri.out.below hN9 (Nat.le_refl _))
    replace rw := Lib.hid (rw.out.below hN9 (Nat.le_refl _))
    replace rt := Lib.hid (rt.out.below hN9 (Nat.le_refl _))
    replace ro := Lib.hid (ro.out.below hN9 (Nat.le_refl _))
    have z_R18 := hN9.size; clear hN9
    clear rt ro
    go_wp2_with fail
    refine (d3.out _ R18 ri.out hP.out).mono ?_; rintro e R19 ⟨⟨vt, rfl, ot⟩, hN10⟩
    replace hT := Lib.hid (Below.then_ hT.out hN10)
    replace hP := Lib.hid (Below.then_ hP.out hN10)
    replace ri := Lib.hid (ri.out.below hN10 (Nat.le_refl _))
    replace rw := Lib.hid (rw.out.below hN10 (Nat.le_refl _))
    have z_R19 := hN10.size; clear hN10
    have rt := Lib.hid (rd.out _ (okM_id k) _ _ _ ot)
    clear ot
    go_wp2_with fail
    refine (d5.out R19).mono ?_; rintro e R20 ⟨⟨vo, rfl, oo⟩, hN11⟩
    replace hT := Lib.hid (Below.then_ hT.out hN11)
    replace hP := Lib.hid (Below.then_ hP.out hN11)
    replace ri := Lib.hid (ri.out.below hN11 (Nat.le_refl _))
    replace rw := Lib.hid (rw.out.below hN11 (Nat.le_refl _))
    replace rt := Lib.hid (rt.out.below hN11 (Nat.le_refl _))
    have z_R20 := hN11.size; clear hN11
    have ro := Lib.hid (rd.out _ (okM_id k) _ _ _ oo)
    clear oo
    go_wp2_with fail
    refine (q1.out _ _ _ R20 rt.out ro.out).mono ?_; rintro e R21 ⟨rfl, hN12⟩
    replace hT := Lib.hid (Below.then_ hT.out hN12)
    replace hP := Lib.hid (Below.then_ hP.out hN12)
    replace ri := Lib.hid (ri.out.below hN12 (Nat.le_refl _))
    replace rw := Lib.hid (rw.out.below hN12 (Nat.le_refl _))
    replace rt := Lib.hid (rt.out.below hN12 (Nat.le_refl _))
    replace ro := Lib.hid (ro.out.below hN12 (Nat.le_refl _))
    have z_R21 := hN12.size; clear hN12
    clear rt ro
    go_wp2_with fail
    refine (q1.out _ _ _ R21 rw.out (rA.out R21 hP.out)).mono ?_; rintro e R22 ⟨rfl, hN13⟩
    replace hT := Lib.hid (Below.then_ hT.out hN13)
    replace hP := Lib.hid (Below.then_ hP.out hN13)
    replace ri := Lib.hid (ri.out.below hN13 (Nat.le_refl _))
    replace rw := Lib.hid (rw.out.below hN13 (Nat.le_refl _))
    have z_R22 := hN13.size; clear hN13
    go_wp2_with fail
    refine (hA.out R22 hT.out).mono ?_; rintro e V14 ⟨rfl, hN14⟩
    replace hT := Lib.hid (Below.then_ hT.out hN14)
    replace hP := Lib.hid (Below.then_ hP.out hN14)
    replace ri := Lib.hid (ri.out.below hN14 (Nat.le_refl _))
    replace rw := Lib.hid (rw.out.below hN14 (Nat.le_refl _))
    clear hN14
    go_wp2
    go_ret
    exact ⟨rfl, hT.out⟩
end Go.Proofs.YtfljkcmijnhgkaaDoor
