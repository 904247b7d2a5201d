/- FieldShort: its contract. -/
import Derived.Test.YtfljkcmijnhgkaaDoorKwh
import Derived.Test.YtfljkcmijnhgkaaDoorKwe
import Derived.Test.YtfljkcmijnhgkaaDoorKwg
import Derived.Test.YtfljkcmijnhgkaaDoorKwa
import Derived.Test.YtfljkcmijnhgkaaDoorKh
import Derived.Test.YtfljkcmijnhgkaaDoorKb
import Derived.Test.YtfljkcmijnhgkaaDoorKn
namespace Go.Proofs.YtfljkcmijnhgkaaDoor
open Go.RowKit Go.Shelf
set_option linter.unusedSimpArgs false

set_option maxRecDepth 100000 in
set_option maxHeartbeats 6400000 in
theorem FieldShort_any (od oh mn n1 n2 : Nat) (v1 v2 : Value) (w : World) (h1 : RdB w w.heap.size v1 n1) (h2 : RdB w w.heap.size v2 n2) (hod : od < 256) (hoh : oh < 256) (hmn : mn < 256) (hJ : Joins w) :
    Calls Tryd.prog 14 #[v1, v2, .int .u8 od, .int .u8 oh, .int .u8 mn] w fun e w' => e = .returned (.bool true) ∧ Below w.heap.size w w' := by
  have hA := Lib.hid (fun W (hW : Below w.heap.size w W) => awake_any W (hJ.below hW))
  have f1 := Lib.hid (Fill_any n1 v1 w h1)
  have f2 := Lib.hid (fun W (hW : Below w.heap.size w W) => Fill_any n2 v2 W ((h2.below hW (Nat.le_refl _)).mono hW.size))
  have hT := Lib.hid (Below.refl w.heap.size w)
  obtain ⟨m, hm⟩ : ∃ m, m = od % 7 := ⟨_, rfl⟩
  have hm2 : m ≤ 6 := by omega
  have e8 : (od : Int).tmod 7 = (m : Int) := by rw [Int.tmod_eq_emod_of_nonneg (by omega)]; omega
  obtain ⟨q, hq⟩ : ∃ q, q = oh % 7 := ⟨_, rfl⟩
  have hq2 : q ≤ 6 := by omega
  have e7 : (oh : Int).tmod 7 = (q : Int) := by rw [Int.tmod_eq_emod_of_nonneg (by omega)]; omega
  obtain ⟨L, hL⟩ : ∃ L, L = mn % 41 := ⟨_, rfl⟩
  have hL2 : L ≤ 40 := by omega
  have e9 : (mn : Int).tmod 41 = (L : Int) := by rw [Int.tmod_eq_emod_of_nonneg (by omega)]; omega
  replace hm := Lib.hid hm
  replace hq := Lib.hid hq
  replace hL := Lib.hid hL
  clear h1 h2 hJ
  go_enter Tryd.func14, Tryd.ntmps14
  go_wp2_with fail
  refine (f1.out).mono ?_; rintro e V1 ⟨rfl, hS, hN1⟩
  replace hT := Lib.hid (Below.then_ hT.out hN1)
  have z_V1 := hN1.size; clear hN1
  replace hS := Lib.hid hS
  go_wp2_with fail
  refine (rule_any w.heap.size 0 m V1 hS.out (by omega) (by omega)).mono ?_; rintro e V2 ⟨⟨a, b, xs, ys, rfl, okx, oky, oa, ob, -⟩, -, hB2⟩
  obtain ⟨r, hr⟩ : ∃ r : Rule, r = ⟨xs, ys⟩ := ⟨_, rfl⟩
  obtain ⟨rfl, rfl⟩ : xs = r.by_ ∧ ys = r.start := by rw [hr]; exact ⟨rfl, rfl⟩
  clear hr
  have hok : Hid (okR r m) := Lib.hid ⟨okx, oky⟩
  have rr0 := Lib.hid (OwnR.rd (r := r) (base := V1.heap.size) (w := V2) (v := .agg #[a, b]) ⟨a, b, rfl, oa, ob⟩ (by rw [okx.1]; omega) (by rw [oky.1]; omega))
  obtain ⟨A, ca, rfl⟩ := own_shape oa
  obtain ⟨B, cb, rfl⟩ := own_shape ob
  rw [okx.1, oky.1] at rr0
  have ex := okx.1
  have ey := oky.1
  rw [ex, ey]
  clear okx oky
  replace hT := Lib.hid (hT.out.trans ((hB2.below (by omega)).mono (by omega)))
  have z_V2 := hB2.size; clear hB2
  clear oa ob hS f1
  have hP := Lib.hid (Below.refl V2.heap.size V2)
  obtain ⟨hN2, Y_0, Y_1, Y_z⟩ := box_new V2 (.slice A m ca) (.slice B m cb) 49
  replace hT := Lib.hid (Below.then_ hT.out hN2)
  replace hP := Lib.hid (Below.then_ hP.out hN2)
  go_wp2_with fail
  generalize V2.alloc (.cells #[.slice A m ca, .slice B m cb] 49) = Y at *
  clear hN2
  have rR := Lib.hid (fun W (hW : Below V2.heap.size V2 W) => rr0.out.below hW (Nat.le_refl _))
  clear rr0
  have cG := Lib.hid (fun n (hn : n ≤ 10000) W (hW : Below V2.heap.size V2 W) => go1_any r n _ W (rR.out W hW) (by rw [ex, ey]; exact Nat.le_refl _) (by rw [ey]; omega) hok.out.1.2 hok.out.2.2 hn)
  obtain ⟨p, o, hl, okp, oL, o12, hom, hpl, huq⟩ := least_law hok.out (show m ≤ 12 by omega) (show L ≤ 64 by omega) (show m ≤ L ∨ L ≤ 12 by omega)
  have om : o ≤ m := by
    by_cases h : m ≤ L
    · exact hom h
    · omega
  clear hom
  replace okp := Lib.hid okp
  replace huq := Lib.hid huq
  replace ex := Lib.hid ex
  replace ey := Lib.hid ey
  have hll := Lib.hid (firstL_len r L)
  have hlb := Lib.hid (firstL_bd hok.out.2.2 L)
  have cG1 := Lib.hid (cG.out L (by omega))
  have cG2 := Lib.hid (fun v W (hv : RdR W v p) => hpl ▸ go1_any p L v W hv (by rw [okp.out.1.1, okp.out.2.1]; exact Nat.le_refl _) (by rw [okp.out.2.1]; omega) okp.out.1.2 okp.out.2.2 (by omega))
  have cL := Lib.hid (fun v W (hv : RdI W v (firstL r L)) => hl ▸ Least_any (firstL r L) v W hv)
  have q4 := Lib.hid (fun xs v u W (h1 : RdI W v xs) (h2 : RdI W u xs) => (decide_eq_true (show xs = xs from rfl)) ▸ Equal_any xs xs v u W h1 h2)
  have qb := Lib.hid (fun xs ys v u W (h1 : RdI W v xs) (h2 : RdI W u ys) => Equal_any xs ys v u W h1 h2)
  clear hl hpl
  obtain ⟨l, hld⟩ : ∃ l, l = firstL r L := ⟨_, rfl⟩
  simp only [← hld] at huq hll hlb cG1 cG2 cL
  replace hld := Lib.hid hld
  go_wp2_with fail
  refine (cG1.out Y hP.out).mono ?_; rintro e X1 ⟨⟨u, rfl, ru⟩, hN3⟩
  replace hT := Lib.hid (Below.then_ hT.out hN3)
  replace hP := Lib.hid (Below.then_ hP.out hN3)
  replace Y_0 := (hN3.cell (World.block_lt_of_cell? _ _ Y_0)).trans Y_0
  replace Y_1 := (hN3.cell (World.block_lt_of_cell? _ _ Y_1)).trans Y_1
  have z_X1 := hN3.size; clear hN3
  obtain ⟨Al, cl, rfl, -⟩ := ru.open_
  rw [hll.out] at ru ⊢
  replace ru := Lib.hid ru
  clear cG1
  go_wp2_with fail
  refine (cL.out _ X1 ru.out).mono ?_; rintro e X2 ⟨v5, rfl, or5, hN4⟩
  replace hT := Lib.hid (Below.then_ hT.out hN4)
  replace hP := Lib.hid (Below.then_ hP.out hN4)
  replace Y_0 := (hN4.cell (World.block_lt_of_cell? _ _ Y_0)).trans Y_0
  replace Y_1 := (hN4.cell (World.block_lt_of_cell? _ _ Y_1)).trans Y_1
  replace ru := Lib.hid (ru.out.below hN4 (Nat.le_refl _))
  have z_X2 := hN4.size; clear hN4
  change OwnR _ _ _ p at or5
  obtain ⟨a5, b5, rfl, oa, ob⟩ := or5
  obtain ⟨A5, c5, rfl⟩ := own_shape oa
  obtain ⟨B5, d5, rfl⟩ := own_shape ob
  have ra5 := Lib.hid (oa.rd (by have := okp.out.1.1; omega))
  have rb5 := Lib.hid (ob.rd (by have := okp.out.2.1; omega))
  rw [okp.out.1.1] at ra5 ⊢
  rw [okp.out.2.1] at rb5 ⊢
  clear oa ob cL
  obtain ⟨hN5, Z_0, Z_1, Z_z⟩ := box_new X2 (.slice A5 o c5) (.slice B5 o d5) 49
  replace hT := Lib.hid (Below.then_ hT.out hN5)
  replace hP := Lib.hid (Below.then_ hP.out hN5)
  replace Y_0 := (hN5.cell (World.block_lt_of_cell? _ _ Y_0)).trans Y_0
  replace Y_1 := (hN5.cell (World.block_lt_of_cell? _ _ Y_1)).trans Y_1
  replace ru := Lib.hid (ru.out.below hN5 (Nat.le_refl _))
  replace ra5 := Lib.hid (ra5.out.below hN5 (Nat.le_refl _))
  replace rb5 := Lib.hid (rb5.out.below hN5 (Nat.le_refl _))
  go_wp2_with fail
  generalize X2.alloc (.cells #[.slice A5 o c5, .slice B5 o d5] 49) = Z at *
  clear hN5
  have k1 : ¬ (m : Int) < (o : Int) := by omega
  have k2 : ¬ (L : Int) < (o : Int) := by omega
  have q1 := Lib.hid (fun xs n (hx : okL xs n) v W (h : RdI W v xs) => (isRes_of hx.2) ▸ residues_any xs v W h)
  refine (q1.out p.by_ o okp.out.1 _ Z ra5.out).mono ?_; rintro e X3 ⟨rfl, hN6⟩
  replace hT := Lib.hid (Below.then_ hT.out hN6)
  replace hP := Lib.hid (Below.then_ hP.out hN6)
  replace Y_0 := (hN6.cell (World.block_lt_of_cell? _ _ Y_0)).trans Y_0
  replace Y_1 := (hN6.cell (World.block_lt_of_cell? _ _ Y_1)).trans Y_1
  replace ru := Lib.hid (ru.out.below hN6 (Nat.le_refl _))
  replace ra5 := Lib.hid (ra5.out.below hN6 (Nat.le_refl _))
  replace rb5 := Lib.hid (rb5.out.below hN6 (Nat.le_refl _))
  replace Z_0 := (hN6.cell (World.block_lt_of_cell? _ _ Z_0)).trans Z_0
  replace Z_1 := (hN6.cell (World.block_lt_of_cell? _ _ Z_1)).trans Z_1
  have z_X3 := hN6.size; clear hN6
  go_wp2_with fail
  refine (cG2.out _ X3 ⟨_, _, rfl, ra5.out, rb5.out⟩).mono ?_; rintro e X4 ⟨⟨u2, rfl, ru2⟩, hN7⟩
  replace hT := Lib.hid (Below.then_ hT.out hN7)
  replace hP := Lib.hid (Below.then_ hP.out hN7)
  replace Y_0 := (hN7.cell (World.block_lt_of_cell? _ _ Y_0)).trans Y_0
  replace Y_1 := (hN7.cell (World.block_lt_of_cell? _ _ Y_1)).trans Y_1
  replace ru := Lib.hid (ru.out.below hN7 (Nat.le_refl _))
  replace ra5 := Lib.hid (ra5.out.below hN7 (Nat.le_refl _))
  replace rb5 := Lib.hid (rb5.out.below hN7 (Nat.le_refl _))
  replace Z_0 := (hN7.cell (World.block_lt_of_cell? _ _ Z_0)).trans Z_0
  replace Z_1 := (hN7.cell (World.block_lt_of_cell? _ _ Z_1)).trans Z_1
  have z_X4 := hN7.size; clear hN7
  replace ru2 := Lib.hid ru2
  go_wp2_with fail
  refine (q4.out l _ _ X4 ru2.out ru.out).mono ?_; rintro e X5 ⟨rfl, hN8⟩
  replace hT := Lib.hid (Below.then_ hT.out hN8)
  replace hP := Lib.hid (Below.then_ hP.out hN8)
  replace Y_0 := (hN8.cell (World.block_lt_of_cell? _ _ Y_0)).trans Y_0
  replace Y_1 := (hN8.cell (World.block_lt_of_cell? _ _ Y_1)).trans Y_1
  replace ru := Lib.hid (ru.out.below hN8 (Nat.le_refl _))
  replace ra5 := Lib.hid (ra5.out.below hN8 (Nat.le_refl _))
  replace rb5 := Lib.hid (rb5.out.below hN8 (Nat.le_refl _))
  replace Z_0 := (hN8.cell (World.block_lt_of_cell? _ _ Z_0)).trans Z_0
  replace Z_1 := (hN8.cell (World.block_lt_of_cell? _ _ Z_1)).trans Z_1
  replace ru2 := Lib.hid (ru2.out.below hN8 (Nat.le_refl _))
  have z_X5 := hN8.size; clear hN8
  clear ru2
  clear k1 k2 cG2
  have hZ := Lib.hid (Below.refl X5.heap.size X5)
  have rl := Lib.hid (fun W (hW : Below X5.heap.size X5 W) => ru.out.below hW (Nat.le_refl _))
  have ra := Lib.hid (fun W (hW : Below X5.heap.size X5 W) => ra5.out.below hW (Nat.le_refl _))
  have toT := Lib.hid (fun W (hW : Below X5.heap.size X5 W) => hT.out.trans (hW.mono hT.out.size))
  have toP := Lib.hid (fun W (hW : Below X5.heap.size X5 W) => hP.out.trans (hW.mono hP.out.size))
  clear ru ra5 rb5
  have cY0 := Lib.hid Y_0
  have cY1 := Lib.hid Y_1
  go_wp2_with fail
  refine (f2.out X5 hT.out).mono ?_; rintro e X6 ⟨rfl, hS, hN1⟩
  replace hT := Lib.hid (Below.then_ hT.out hN1)
  replace hZ := Lib.hid (Below.then_ hZ.out hN1)
  replace Y_0 := (hN1.cell (World.block_lt_of_cell? _ _ Y_0)).trans Y_0
  replace Y_1 := (hN1.cell (World.block_lt_of_cell? _ _ Y_1)).trans Y_1
  replace Z_0 := (hN1.cell (World.block_lt_of_cell? _ _ Z_0)).trans Z_0
  replace Z_1 := (hN1.cell (World.block_lt_of_cell? _ _ Z_1)).trans Z_1
  have z_X6 := hN1.size; clear hN1
  replace hS := Lib.hid hS
  go_wp2_with fail
  refine (rule_any X5.heap.size 0 q X6 hS.out (by omega) (by omega)).mono ?_; rintro e X7 ⟨⟨a, b, xs, ys, rfl, okx, oky, oa, ob, hap⟩, -, hB2⟩
  obtain ⟨t, hr⟩ : ∃ t : Rule, t = ⟨xs, ys⟩ := ⟨_, rfl⟩
  obtain ⟨rfl, rfl⟩ : xs = t.by_ ∧ ys = t.start := by rw [hr]; exact ⟨rfl, rfl⟩
  clear hr
  have okt : Hid (okR t q) := Lib.hid ⟨okx, oky⟩
  obtain ⟨A3, c3, rfl⟩ := own_shape oa
  obtain ⟨B3, d3, rfl⟩ := own_shape ob
  rw [okx.1] at oa hap ⊢
  rw [oky.1] at ob hap ⊢
  have lt3 : Hid (∀ g, (Value.slice B3 q d3).ownBlock = some g → X6.heap.size ≤ g ∧ g < X7.heap.size) := Lib.hid (fun g hg => World.ownsRow.lt ob g hg)
  clear okx oky
  replace hT := Lib.hid (hT.out.trans ((hB2.below (by omega)).mono (by omega)))
  replace hZ := Lib.hid (hZ.out.trans ((hB2.below (by omega)).mono (by omega)))
  replace Y_0 := hB2.cell Y_0 (by simp only []; omega)
  replace Y_1 := hB2.cell Y_1 (by simp only []; omega)
  replace Z_0 := hB2.cell Z_0 (by simp only []; omega)
  replace Z_1 := hB2.cell Z_1 (by simp only []; omega)
  have z_X7 := hB2.size; clear hB2
  replace oa := Lib.hid oa
  replace ob := Lib.hid ob
  replace hap := Lib.hid hap
  clear hS f2
  obtain ⟨hN2, S_0, S_1, S_z⟩ := box_new X7 (.slice A3 q c3) (.slice B3 q d3) 49
  replace hT := Lib.hid (Below.then_ hT.out hN2)
  replace hZ := Lib.hid (Below.then_ hZ.out hN2)
  replace Y_0 := (hN2.cell (World.block_lt_of_cell? _ _ Y_0)).trans Y_0
  replace Y_1 := (hN2.cell (World.block_lt_of_cell? _ _ Y_1)).trans Y_1
  replace Z_0 := (hN2.cell (World.block_lt_of_cell? _ _ Z_0)).trans Z_0
  replace Z_1 := (hN2.cell (World.block_lt_of_cell? _ _ Z_1)).trans Z_1
  replace oa := Lib.hid (oa.out.below hN2)
  replace ob := Lib.hid (ob.out.below hN2)
  go_upto_if 101 with fail
  generalize X7.alloc (.cells #[.slice A3 q c3, .slice B3 q d3] 49) = S at *
  clear hN2
  go_cut [] (fun wx => Hid (Below X5.heap.size X5 wx))
  case first =>
    by_cases hqL : q ≤ L
    · have k3 : (q : Int) ≤ (L : Int) := by omega
      obtain ⟨W1, hcp, oS, hK⟩ := copy_own ob.out (rl.out _ hZ.out) okt.out.2.1 hll.out hqL
      have hne : Hid (∀ g, g < X6.heap.size ∨ X7.heap.size ≤ g → ∀ u ∈ [Value.slice B3 q d3], u.ownBlock ≠ some g) := Lib.hid (fun g hg u hu e => by rw [List.mem_singleton.1 hu] at e; have := lt3.out g e; omega)
      have zS := S_z
      have hZ1 := Lib.hid (hZ.out.trans (hK.below hZ.out.size (fun u hu k hk => by rw [List.mem_singleton.1 hu] at hk; have := lt3.out k hk; omega)))
      have hB1 := hK.below (B := X6.heap.size) (by omega) (fun u hu k hk => by rw [List.mem_singleton.1 hu] at hk; exact (lt3.out k hk).1)
      have Z_0' := (hB1.cell (p := ⟨X2.heap.size, 0, none⟩) (by show X2.heap.size < X6.heap.size; omega)).trans Z_0
      have Z_1' := (hB1.cell (p := ⟨X2.heap.size, 1, none⟩) (by show X2.heap.size < X6.heap.size; omega)).trans Z_1
      have S_0' := hK.cell S_0 (hne.out _ (.inr (Nat.le_refl _)))
      have S_1' := hK.cell S_1 (hne.out _ (.inr (Nat.le_refl _)))
      have rTa := Lib.hid (OwnI.rd (w := W1) (xs := t.by_) (hK.owns oa.out (fun g hg u hu e => by rw [List.mem_singleton.1 hu] at e; exact hap.out g hg e)) (by rw [okt.out.1.1]; omega))
      have hlq : (l.take q).length = q := by rw [List.length_take, hll.out]; omega
      have rTb := Lib.hid (oS.rd (by rw [hlq]; omega))
      have okq : okR ⟨t.by_, l.take q⟩ q := ⟨okt.out.1, hlq, fun x hx => hlb.out x (List.mem_of_mem_take hx)⟩
      have cG3 := Lib.hid (go1_any ⟨t.by_, l.take q⟩ L _ W1 ⟨_, _, rfl, rTa.out, rTb.out⟩ (by rw [okq.1.1, okq.2.1]; exact Nat.le_refl _) (by rw [okq.2.1]; omega) okq.1.2 okq.2.2 (by omega))
      clear hne hB1 oS hK hlq okq Y_0 Y_1 hT S_0 Z_0 Z_1
      go_wp2_with fail
      refine (cG3.out).mono ?_; rintro e W2 ⟨⟨u3, rfl, ru3⟩, hN1⟩
      replace hZ1 := Lib.hid (Below.then_ hZ1.out hN1)
      replace Z_0' := (hN1.cell (World.block_lt_of_cell? _ _ Z_0')).trans Z_0'
      replace Z_1' := (hN1.cell (World.block_lt_of_cell? _ _ Z_1')).trans Z_1'
      replace S_0' := (hN1.cell (World.block_lt_of_cell? _ _ S_0')).trans S_0'
      replace S_1' := (hN1.cell (World.block_lt_of_cell? _ _ S_1')).trans S_1'
      replace rTa := Lib.hid (rTa.out.below hN1 (Nat.le_refl _))
      have z_W2 := hN1.size; clear hN1
      have hq3 := Lib.hid (qb.out _ l _ _ W2 ru3 (rl.out _ hZ1.out))
      clear cG3 ru3
      by_cases hfit : firstL ⟨t.by_, l.take q⟩ L = l
      · rw [decide_eq_true hfit] at hq3
        obtain ⟨hoq, heq⟩ := huq.out t q okt.out hqL hfit
        have k4 : ¬ (q : Int) < (o : Int) := by omega
        replace hfit := Lib.hid hfit
        by_cases hqo : q = o
        · have k5 : ((q : Int) == (o : Int)) = true := by rw [beq_iff_eq]; omega
          obtain ⟨h5, h6⟩ := heq hqo
          replace h5 := Lib.hid h5
          replace h6 := Lib.hid h6
          replace hqo := Lib.hid hqo
          have cC := Lib.hid (fun W (h1 : RdI W _ t.by_) (h2 : RdI W _ p.by_) => Compare_any t.by_ p.by_ (.slice A3 q c3) (.slice A5 o c5) W h1 h2 (by rw [okp.out.1.1, okt.out.1.1]; exact hqo.out.symm))
          clear heq
          by_cases h2q : 2 * q ≤ L
          · have k7 : 2 * (q : Int) ≤ (L : Int) := by omega
            have eby : Hid (t.by_ = p.by_) := Lib.hid (h6.out h2q)
            go_wp2_with fail
            refine (hq3.out).mono ?_; rintro e W3 ⟨rfl, hN2⟩
            replace hZ1 := Lib.hid (Below.then_ hZ1.out hN2)
            replace Z_0' := (hN2.cell (World.block_lt_of_cell? _ _ Z_0')).trans Z_0'
            replace Z_1' := (hN2.cell (World.block_lt_of_cell? _ _ Z_1')).trans Z_1'
            replace S_0' := (hN2.cell (World.block_lt_of_cell? _ _ S_0')).trans S_0'
            replace S_1' := (hN2.cell (World.block_lt_of_cell? _ _ S_1')).trans S_1'
            replace rTa := Lib.hid (rTa.out.below hN2 (Nat.le_refl _))
            have z_W3 := hN2.size; clear hN2
            have hcc := Lib.hid (cC.out W3 rTa.out (ra.out _ hZ1.out))
            clear cC hq3
            go_wp2_with fail
            refine hcc.out.mono ?_; rintro e w' ⟨⟨c, rfl, hc, hc3⟩, rfl⟩
            have hc0 : ¬ c < 0 := by have := h5.out c hc; omega
            replace hc := Lib.hid hc
            replace hc3 := Lib.hid hc3
            have rTc := Lib.hid (ra.out W3 hZ1.out)
            rw [← eby.out] at rTc
            clear hcc h5
            go_wp2_with fail
            refine (q4.out t.by_ _ _ W3 rTa.out rTc.out).mono ?_; rintro e W4 ⟨rfl, hN1⟩
            replace hZ1 := Lib.hid (Below.then_ hZ1.out hN1)
            have z_W4 := hN1.size; clear hN1
            go_wp2
            go_meet
            exact hZ1
          · have k7 : ¬ 2 * (q : Int) ≤ (L : Int) := by omega
            go_wp2_with fail
            refine (hq3.out).mono ?_; rintro e W3 ⟨rfl, hN1⟩
            replace hZ1 := Lib.hid (Below.then_ hZ1.out hN1)
            replace Z_0' := (hN1.cell (World.block_lt_of_cell? _ _ Z_0')).trans Z_0'
            replace Z_1' := (hN1.cell (World.block_lt_of_cell? _ _ Z_1')).trans Z_1'
            replace S_0' := (hN1.cell (World.block_lt_of_cell? _ _ S_0')).trans S_0'
            replace S_1' := (hN1.cell (World.block_lt_of_cell? _ _ S_1')).trans S_1'
            replace rTa := Lib.hid (rTa.out.below hN1 (Nat.le_refl _))
            have z_W3 := hN1.size; clear hN1
            have hcc := Lib.hid (cC.out W3 rTa.out (ra.out _ hZ1.out))
            clear cC hq3
            go_wp2_with fail
            refine hcc.out.mono ?_; rintro e w' ⟨⟨c, rfl, hc, hc3⟩, rfl⟩
            have hc0 : ¬ c < 0 := by have := h5.out c hc; omega
            replace hc := Lib.hid hc
            replace hc3 := Lib.hid hc3
            clear hcc h5
            go_wp2
            go_meet
            exact hZ1
        · have k5 : ((q : Int) == (o : Int)) = false := by rw [beq_eq_false_iff_ne]; omega
          clear heq
          replace hqo := Lib.hid hqo
          go_wp2_with fail
          refine (hq3.out).mono ?_; rintro e W3 ⟨rfl, hN1⟩
          replace hZ1 := Lib.hid (Below.then_ hZ1.out hN1)
          replace Z_0' := (hN1.cell (World.block_lt_of_cell? _ _ Z_0')).trans Z_0'
          replace Z_1' := (hN1.cell (World.block_lt_of_cell? _ _ Z_1')).trans Z_1'
          replace S_0' := (hN1.cell (World.block_lt_of_cell? _ _ S_0')).trans S_0'
          replace S_1' := (hN1.cell (World.block_lt_of_cell? _ _ S_1')).trans S_1'
          replace rTa := Lib.hid (rTa.out.below hN1 (Nat.le_refl _))
          have z_W3 := hN1.size; clear hN1
          go_wp2
          go_meet
          exact hZ1
      · rw [decide_eq_false hfit] at hq3
        replace hfit := Lib.hid hfit
        go_wp2_with fail
        refine (hq3.out).mono ?_; rintro e W3 ⟨rfl, hN1⟩
        replace hZ1 := Lib.hid (Below.then_ hZ1.out hN1)
        replace Z_0' := (hN1.cell (World.block_lt_of_cell? _ _ Z_0')).trans Z_0'
        replace Z_1' := (hN1.cell (World.block_lt_of_cell? _ _ Z_1')).trans Z_1'
        replace S_0' := (hN1.cell (World.block_lt_of_cell? _ _ S_0')).trans S_0'
        replace S_1' := (hN1.cell (World.block_lt_of_cell? _ _ S_1')).trans S_1'
        replace rTa := Lib.hid (rTa.out.below hN1 (Nat.le_refl _))
        have z_W3 := hN1.size; clear hN1
        go_wp2
        go_meet
        exact hZ1
    · have k3 : ¬ (q : Int) ≤ (L : Int) := by omega
      go_wp2
      go_meet
      exact hZ
  case rest =>
  rename World => E0
  have hP := Lib.hid (toP.out _ hcut.out)
  have hT := Lib.hid (toT.out _ hcut.out)
  have Y_0 := (hcut.out.cell (World.block_lt_of_cell? _ _ cY0.out)).trans cY0.out
  have Y_1 := (hcut.out.cell (World.block_lt_of_cell? _ _ cY1.out)).trans cY1.out
  obtain ⟨u, k, hs, oku, km, hseq, hmin⟩ := short_law hok.out (show m ≤ 12 by omega)
  have k9 : ¬ (m : Int) < (k : Int) := by omega
  have k8 : decide (m < k) = false := decide_eq_false (by omega)
  have h60 := Lib.hid (first_eq oku hok.out (N := 60) (fun t _ => hseq t))
  have h2k := Lib.hid (first_eq oku hok.out (N := 2 * k) (fun t _ => hseq t))
  have hag := again_law oku hmin (show k ≤ 12 by omega)
  have cS := Lib.hid (fun W (hW : Below V2.heap.size V2 W) => hs ▸ Short_any r _ W (rR.out W hW))
  have cA := Lib.hid (fun v W (hv : RdI W v (firstL u (2 * k))) => hag ▸ Least_any (firstL u (2 * k)) v W hv)
  have cG4 := Lib.hid (fun v W (hv : RdR W v u) => go1_any u 60 v W hv (by rw [oku.1.1, oku.2.1]; exact Nat.le_refl _) (by rw [oku.2.1]; omega) oku.1.2 oku.2.2 (by omega))
  have cG5 := Lib.hid (cG.out 60 (by omega))
  rw [← h60.out] at cG5
  have cG6 := Lib.hid (cG.out (2 * k) (by omega))
  rw [← h2k.out] at cG6
  have e2k : 2 * (k : Int) = ((2 * k : Nat) : Int) := by omega
  replace oku := Lib.hid oku
  clear hs hseq hmin hag hcut h2k h60 cG ra rl toP toT cY0 cY1
  generalize 2 * k = K2 at *
  go_wp2_with fail
  refine (cS.out E0 hP.out).mono ?_; rintro e E1 ⟨v6, rfl, or6, hN1⟩
  replace hT := Lib.hid (Below.then_ hT.out hN1)
  replace hP := Lib.hid (Below.then_ hP.out hN1)
  replace Y_0 := (hN1.cell (World.block_lt_of_cell? _ _ Y_0)).trans Y_0
  replace Y_1 := (hN1.cell (World.block_lt_of_cell? _ _ Y_1)).trans Y_1
  have z_E1 := hN1.size; clear hN1
  change OwnR _ _ _ u at or6
  obtain ⟨a6, b6, rfl, oa, ob⟩ := or6
  obtain ⟨A6, c6, rfl⟩ := own_shape oa
  obtain ⟨B6, d6, rfl⟩ := own_shape ob
  have ra6 := Lib.hid (oa.rd (by have := oku.out.1.1; omega))
  have rb6 := Lib.hid (ob.rd (by have := oku.out.2.1; omega))
  rw [oku.out.1.1] at ra6 ⊢
  rw [oku.out.2.1] at rb6 ⊢
  clear oa ob cS
  obtain ⟨hN2, G_0, G_1, G_z⟩ := box_new E1 (.slice A6 k c6) (.slice B6 k d6) 49
  replace hT := Lib.hid (Below.then_ hT.out hN2)
  replace hP := Lib.hid (Below.then_ hP.out hN2)
  replace Y_0 := (hN2.cell (World.block_lt_of_cell? _ _ Y_0)).trans Y_0
  replace Y_1 := (hN2.cell (World.block_lt_of_cell? _ _ Y_1)).trans Y_1
  replace ra6 := Lib.hid (ra6.out.below hN2 (Nat.le_refl _))
  replace rb6 := Lib.hid (rb6.out.below hN2 (Nat.le_refl _))
  go_wp2_with fail
  generalize E1.alloc (.cells #[.slice A6 k c6, .slice B6 k d6] 49) = G at *
  clear hN2
  have HS : G.cell? ⟨V2.heap.size, 0, none⟩ = some (.slice A m ca) ∧ G.cell? ⟨V2.heap.size, 1, none⟩ = some (.slice B m cb) ∧ G.cell? ⟨E1.heap.size, 0, none⟩ = some (.slice A6 k c6) ∧ G.cell? ⟨E1.heap.size, 1, none⟩ = some (.slice B6 k d6) := ⟨Y_0, Y_1, G_0, G_1⟩
  refine D_begin (fun w' => w'.cell? ⟨V2.heap.size, 0, none⟩ = some (.slice A m ca) ∧ w'.cell? ⟨V2.heap.size, 1, none⟩ = some (.slice B m cb) ∧ w'.cell? ⟨E1.heap.size, 0, none⟩ = some (.slice A6 k c6) ∧ w'.cell? ⟨E1.heap.size, 1, none⟩ = some (.slice B6 k d6)) (fun _ => True) 99 (by kernel_rfl) ?_
  change wpAnyD _ _ _ _ _ _ _ _ _ _ G.drew
  simp only [List.size_toArray, List.length_cons, List.length_nil, Nat.reduceAdd, Array.replicate_succ, Array.replicate_zero, List.push_toArray, List.append_toArray, List.nil_append, List.cons_append]
  refine D_take (i := 0) (v := ?_) rfl (by kernel_rfl) (by kernel_rfl) (by kernel_rfl) (by kernel_rfl) (fun _ _ _ h => h) (Or.inl ⟨by rfl, ?_⟩) HS (fun _ => trivial) ?_
  rotate_left; · intro w1 hw1; obtain ⟨hw1, hw2, hw3, hw4⟩ := hw1; go_simp; try with_reducible rfl
  try simp only [Act.put, List.getElem_toArray, List.getElem_cons_zero, List.getElem_cons_succ, List.setIfInBounds_toArray, List.set_cons_zero, List.set_cons_succ]
  refine D_take (i := 1) (v := ?_) rfl (by kernel_rfl) (by kernel_rfl) (by kernel_rfl) (by kernel_rfl) (fun _ _ _ h => h) (Or.inl ⟨by rfl, ?_⟩) HS (fun _ => trivial) ?_
  rotate_left; · intro w1 hw1; obtain ⟨hw1, hw2, hw3, hw4⟩ := hw1; go_simp; try with_reducible rfl
  try simp only [Act.put, List.getElem_toArray, List.getElem_cons_zero, List.getElem_cons_succ, List.setIfInBounds_toArray, List.set_cons_zero, List.set_cons_succ]
  refine D_take (i := 2) (v := ?_) rfl (by kernel_rfl) (by kernel_rfl) (by kernel_rfl) (by kernel_rfl) (fun _ _ _ h => h) (Or.inl ⟨by rfl, ?_⟩) HS (fun _ => trivial) ?_
  rotate_left; · intro w1 hw1; obtain ⟨hw1, hw2, hw3, hw4⟩ := hw1; go_simp; try with_reducible rfl
  try simp only [Act.put, List.getElem_toArray, List.getElem_cons_zero, List.getElem_cons_succ, List.setIfInBounds_toArray, List.set_cons_zero, List.set_cons_succ]
  refine D_take (i := 3) (v := ?_) rfl (by kernel_rfl) (by kernel_rfl) (by kernel_rfl) (by kernel_rfl) (fun _ _ _ h => h) (Or.inl ⟨by rfl, ?_⟩) HS (fun _ => trivial) ?_
  rotate_left; · intro w1 hw1; obtain ⟨hw1, hw2, hw3, hw4⟩ := hw1; go_simp; try with_reducible rfl
  try simp only [Act.put, List.getElem_toArray, List.getElem_cons_zero, List.getElem_cons_succ, List.setIfInBounds_toArray, List.set_cons_zero, List.set_cons_succ]
  refine D_take (i := 4) (v := ?_) rfl (by kernel_rfl) (by kernel_rfl) (by kernel_rfl) (by kernel_rfl) (fun _ _ _ h => h) (Or.inl ⟨by rfl, ?_⟩) HS (fun _ => trivial) ?_
  rotate_left; · intro w1 hw1; obtain ⟨hw1, hw2, hw3, hw4⟩ := hw1; go_simp; try with_reducible rfl
  try simp only [Act.put, List.getElem_toArray, List.getElem_cons_zero, List.getElem_cons_succ, List.setIfInBounds_toArray, List.set_cons_zero, List.set_cons_succ]
  refine D_take (i := 5) (v := ?_) rfl (by kernel_rfl) (by kernel_rfl) (by kernel_rfl) (by kernel_rfl) (fun _ _ _ h => h) (Or.inl ⟨by rfl, ?_⟩) HS (fun _ => trivial) ?_
  rotate_left; · intro w1 hw1; obtain ⟨hw1, hw2, hw3, hw4⟩ := hw1; go_simp; try with_reducible rfl
  try simp only [Act.put, List.getElem_toArray, List.getElem_cons_zero, List.getElem_cons_succ, List.setIfInBounds_toArray, List.set_cons_zero, List.set_cons_succ]
  refine D_take (i := 6) (v := ?_) rfl (by kernel_rfl) (by kernel_rfl) (by kernel_rfl) (by kernel_rfl) (fun _ _ _ h => h) (Or.inl ⟨by rfl, ?_⟩) HS (fun _ => trivial) ?_
  rotate_left; · intro w1 hw1; obtain ⟨hw1, hw2, hw3, hw4⟩ := hw1; go_simp; try with_reducible rfl
  try simp only [Act.put, List.getElem_toArray, List.getElem_cons_zero, List.getElem_cons_succ, List.setIfInBounds_toArray, List.set_cons_zero, List.set_cons_succ]
  refine D_take (i := 7) (v := ?_) rfl (by kernel_rfl) (by kernel_rfl) (by kernel_rfl) (by kernel_rfl) (fun _ _ _ h => h) (Or.inl ⟨by rfl, ?_⟩) HS (fun _ => trivial) ?_
  rotate_left; · intro w1 hw1; obtain ⟨hw1, hw2, hw3, hw4⟩ := hw1; go_simp; try with_reducible rfl
  try simp only [Act.put, List.getElem_toArray, List.getElem_cons_zero, List.getElem_cons_succ, List.setIfInBounds_toArray, List.set_cons_zero, List.set_cons_succ]
  refine D_take (i := 8) (v := ?_) rfl (by kernel_rfl) (by kernel_rfl) (by kernel_rfl) (by kernel_rfl) (fun _ _ _ h => h) (Or.inl ⟨by rfl, ?_⟩) HS (fun _ => trivial) ?_
  rotate_left; · intro w1 hw1; obtain ⟨hw1, hw2, hw3, hw4⟩ := hw1; go_simp; try with_reducible rfl
  try simp only [Act.put, List.getElem_toArray, List.getElem_cons_zero, List.getElem_cons_succ, List.setIfInBounds_toArray, List.set_cons_zero, List.set_cons_succ]
  refine D_take (i := 9) (v := ?_) rfl (by kernel_rfl) (by kernel_rfl) (by kernel_rfl) (by kernel_rfl) (fun _ _ _ h => h) (Or.inl ⟨by rfl, ?_⟩) HS (fun _ => trivial) ?_
  rotate_left; · intro w1 hw1; obtain ⟨hw1, hw2, hw3, hw4⟩ := hw1; go_simp; try with_reducible rfl
  try simp only [Act.put, List.getElem_toArray, List.getElem_cons_zero, List.getElem_cons_succ, List.setIfInBounds_toArray, List.set_cons_zero, List.set_cons_succ]
  refine D_take (i := 10) (v := ?_) rfl (by kernel_rfl) (by kernel_rfl) (by kernel_rfl) (by kernel_rfl) (fun _ _ _ h => h) (Or.inl ⟨by rfl, ?_⟩) HS (fun _ => trivial) ?_
  rotate_left; · intro w1 hw1; obtain ⟨hw1, hw2, hw3, hw4⟩ := hw1; go_simp; try with_reducible rfl
  try simp only [Act.put, List.getElem_toArray, List.getElem_cons_zero, List.getElem_cons_succ, List.setIfInBounds_toArray, List.set_cons_zero, List.set_cons_succ]
  refine D_take (i := 11) (v := ?_) rfl (by kernel_rfl) (by kernel_rfl) (by kernel_rfl) (by kernel_rfl) (fun _ _ _ h => h) (Or.inl ⟨by rfl, ?_⟩) HS (fun _ => trivial) ?_
  rotate_left; · intro w1 hw1; obtain ⟨hw1, hw2, hw3, hw4⟩ := hw1; go_simp; try with_reducible rfl
  try simp only [Act.put, List.getElem_toArray, List.getElem_cons_zero, List.getElem_cons_succ, List.setIfInBounds_toArray, List.set_cons_zero, List.set_cons_succ]
  refine D_take (i := 12) (v := ?_) rfl (by kernel_rfl) (by kernel_rfl) (by kernel_rfl) (by kernel_rfl) (fun _ _ _ h => h) (Or.inl ⟨by rfl, ?_⟩) HS (fun _ => trivial) ?_
  rotate_left; · intro w1 hw1; obtain ⟨hw1, hw2, hw3, hw4⟩ := hw1; go_simp; try with_reducible rfl
  try simp only [Act.put, List.getElem_toArray, List.getElem_cons_zero, List.getElem_cons_succ, List.setIfInBounds_toArray, List.set_cons_zero, List.set_cons_succ]
  refine D_take (i := 13) (v := ?_) rfl (by kernel_rfl) (by kernel_rfl) (by kernel_rfl) (by kernel_rfl) (fun _ _ _ h => h) (Or.inl ⟨by rfl, ?_⟩) HS (fun _ => trivial) ?_
  rotate_left; · intro w1 hw1; obtain ⟨hw1, hw2, hw3, hw4⟩ := hw1; go_simp; try with_reducible rfl
  try simp only [Act.put, List.getElem_toArray, List.getElem_cons_zero, List.getElem_cons_succ, List.setIfInBounds_toArray, List.set_cons_zero, List.set_cons_succ]
  refine D_take (i := 14) (v := ?_) rfl (by kernel_rfl) (by kernel_rfl) (by kernel_rfl) (by kernel_rfl) (fun _ _ _ h => h) (Or.inl ⟨by rfl, ?_⟩) HS (fun _ => trivial) ?_
  rotate_left; · intro w1 hw1; obtain ⟨hw1, hw2, hw3, hw4⟩ := hw1; go_simp; try with_reducible rfl
  try simp only [Act.put, List.getElem_toArray, List.getElem_cons_zero, List.getElem_cons_succ, List.setIfInBounds_toArray, List.set_cons_zero, List.set_cons_succ]
  refine D_take (i := 15) (v := ?_) rfl (by kernel_rfl) (by kernel_rfl) (by kernel_rfl) (by kernel_rfl) (fun _ _ _ h => h) (Or.inl ⟨by rfl, ?_⟩) HS (fun _ => trivial) ?_
  rotate_left; · intro w1 hw1; obtain ⟨hw1, hw2, hw3, hw4⟩ := hw1; go_simp; try with_reducible rfl
  try simp only [Act.put, List.getElem_toArray, List.getElem_cons_zero, List.getElem_cons_succ, List.setIfInBounds_toArray, List.set_cons_zero, List.set_cons_succ]
  refine D_take (i := 16) (v := ?_) rfl (by kernel_rfl) (by kernel_rfl) (by kernel_rfl) (by kernel_rfl) (fun _ _ _ h => h) (Or.inl ⟨by rfl, ?_⟩) HS (fun _ => trivial) ?_
  rotate_left; · intro w1 hw1; obtain ⟨hw1, hw2, hw3, hw4⟩ := hw1; go_simp; try with_reducible rfl
  try simp only [Act.put, List.getElem_toArray, List.getElem_cons_zero, List.getElem_cons_succ, List.setIfInBounds_toArray, List.set_cons_zero, List.set_cons_succ]
  refine D_take (i := 17) (v := ?_) rfl (by kernel_rfl) (by kernel_rfl) (by kernel_rfl) (by kernel_rfl) (fun _ _ _ h => h) (Or.inl ⟨by rfl, ?_⟩) HS (fun _ => trivial) ?_
  rotate_left; · intro w1 hw1; obtain ⟨hw1, hw2, hw3, hw4⟩ := hw1; go_simp; try with_reducible rfl
  try simp only [Act.put, List.getElem_toArray, List.getElem_cons_zero, List.getElem_cons_succ, List.setIfInBounds_toArray, List.set_cons_zero, List.set_cons_succ]
  refine D_take (i := 18) (v := ?_) rfl (by kernel_rfl) (by kernel_rfl) (by kernel_rfl) (by kernel_rfl) (fun _ _ _ h => h) (Or.inl ⟨by rfl, ?_⟩) HS (fun _ => trivial) ?_
  rotate_left; · intro w1 hw1; obtain ⟨hw1, hw2, hw3, hw4⟩ := hw1; go_simp; try with_reducible rfl
  try simp only [Act.put, List.getElem_toArray, List.getElem_cons_zero, List.getElem_cons_succ, List.setIfInBounds_toArray, List.set_cons_zero, List.set_cons_succ]
  refine D_take (i := 19) (v := ?_) rfl (by kernel_rfl) (by kernel_rfl) (by kernel_rfl) (by kernel_rfl) (fun _ _ _ h => h) (Or.inl ⟨by rfl, ?_⟩) HS (fun _ => trivial) ?_
  rotate_left; · intro w1 hw1; obtain ⟨hw1, hw2, hw3, hw4⟩ := hw1; go_simp; try with_reducible rfl
  try simp only [Act.put, List.getElem_toArray, List.getElem_cons_zero, List.getElem_cons_succ, List.setIfInBounds_toArray, List.set_cons_zero, List.set_cons_succ]
  refine D_take (i := 20) (v := ?_) rfl (by kernel_rfl) (by kernel_rfl) (by kernel_rfl) (by kernel_rfl) (fun _ _ _ h => h) (Or.inl ⟨by rfl, ?_⟩) HS (fun _ => trivial) ?_
  rotate_left; · intro w1 hw1; obtain ⟨hw1, hw2, hw3, hw4⟩ := hw1; go_simp; try with_reducible rfl
  try simp only [Act.put, List.getElem_toArray, List.getElem_cons_zero, List.getElem_cons_succ, List.setIfInBounds_toArray, List.set_cons_zero, List.set_cons_succ]
  refine D_take (i := 21) (v := ?_) rfl (by kernel_rfl) (by kernel_rfl) (by kernel_rfl) (by kernel_rfl) (fun _ _ _ h => h) (Or.inl ⟨by rfl, ?_⟩) HS (fun _ => trivial) ?_
  rotate_left; · intro w1 hw1; obtain ⟨hw1, hw2, hw3, hw4⟩ := hw1; go_simp; try with_reducible rfl
  try simp only [Act.put, List.getElem_toArray, List.getElem_cons_zero, List.getElem_cons_succ, List.setIfInBounds_toArray, List.set_cons_zero, List.set_cons_succ]
  refine D_take (i := 22) (v := ?_) rfl (by kernel_rfl) (by kernel_rfl) (by kernel_rfl) (by kernel_rfl) (fun _ _ _ h => h) (Or.inl ⟨by rfl, ?_⟩) HS (fun _ => trivial) ?_
  rotate_left; · intro w1 hw1; obtain ⟨hw1, hw2, hw3, hw4⟩ := hw1; go_simp; try with_reducible rfl
  try simp only [Act.put, List.getElem_toArray, List.getElem_cons_zero, List.getElem_cons_succ, List.setIfInBounds_toArray, List.set_cons_zero, List.set_cons_succ]
  have hd : Below G.heap.size G G.drew := (Below.refl _ _).drew
  clear HS
  generalize G.drew = Gd at hd ⊢
  replace hT := Lib.hid (Below.then_ hT.out hd)
  replace hP := Lib.hid (Below.then_ hP.out hd)
  replace Y_0 := (hd.cell (World.block_lt_of_cell? _ _ Y_0)).trans Y_0
  replace Y_1 := (hd.cell (World.block_lt_of_cell? _ _ Y_1)).trans Y_1
  replace ra6 := Lib.hid (ra6.out.below hd (Nat.le_refl _))
  replace rb6 := Lib.hid (rb6.out.below hd (Nat.le_refl _))
  replace G_0 := (hd.cell (World.block_lt_of_cell? _ _ G_0)).trans G_0
  replace G_1 := (hd.cell (World.block_lt_of_cell? _ _ G_1)).trans G_1
  have z_Gd := hd.size; clear hd
  refine D_one (i := 23) (by kernel_rfl) rfl ?_
  intro K hK
  rw [if_pos (by rfl)]
  go_wp2_with fail
  refine (q1.out u.by_ k oku.out.1 _ Gd ra6.out).mono ?_; rintro e U1 ⟨rfl, hN_U1⟩
  replace hT := Lib.hid (Below.then_ hT.out hN_U1)
  replace hP := Lib.hid (Below.then_ hP.out hN_U1)
  replace Y_0 := (hN_U1.cell (World.block_lt_of_cell? _ _ Y_0)).trans Y_0
  replace Y_1 := (hN_U1.cell (World.block_lt_of_cell? _ _ Y_1)).trans Y_1
  replace ra6 := Lib.hid (ra6.out.below hN_U1 (Nat.le_refl _))
  replace rb6 := Lib.hid (rb6.out.below hN_U1 (Nat.le_refl _))
  replace G_0 := (hN_U1.cell (World.block_lt_of_cell? _ _ G_0)).trans G_0
  replace G_1 := (hN_U1.cell (World.block_lt_of_cell? _ _ G_1)).trans G_1
  have z_U1 := hN_U1.size; clear hN_U1
  refine hK _ _ ⟨Y_0, Y_1, G_0, G_1⟩ (fun _ _ => trivial) ?_
  clear hK K
  try simp only [Act.put, List.getElem_toArray, List.getElem_cons_zero, List.getElem_cons_succ, List.setIfInBounds_toArray, List.set_cons_zero, List.set_cons_succ]
  refine D_take (i := 24) (v := ?_) rfl (by kernel_rfl) (by kernel_rfl) (by kernel_rfl) (by kernel_rfl) (fun _ _ _ h => h) (Or.inl ⟨by rfl, ?_⟩) ⟨Y_0, Y_1, G_0, G_1⟩ (fun _ => trivial) ?_
  rotate_left; · intro w1 hw1; obtain ⟨hw1, hw2, hw3, hw4⟩ := hw1; go_simp; try with_reducible rfl
  try simp only [Act.put, List.getElem_toArray, List.getElem_cons_zero, List.getElem_cons_succ, List.setIfInBounds_toArray, List.set_cons_zero, List.set_cons_succ]
  refine D_take (i := 25) (v := ?_) rfl (by kernel_rfl) (by kernel_rfl) (by kernel_rfl) (by kernel_rfl) (fun _ _ _ h => h) (Or.inl ⟨by rfl, ?_⟩) ⟨Y_0, Y_1, G_0, G_1⟩ (fun _ => trivial) ?_
  rotate_left; · intro w1 hw1; obtain ⟨hw1, hw2, hw3, hw4⟩ := hw1; go_simp; try with_reducible rfl
  try simp only [Act.put, List.getElem_toArray, List.getElem_cons_zero, List.getElem_cons_succ, List.setIfInBounds_toArray, List.set_cons_zero, List.set_cons_succ]
  refine D_take (i := 26) (v := ?_) rfl (by kernel_rfl) (by kernel_rfl) (by kernel_rfl) (by kernel_rfl) (fun _ _ _ h => h) (Or.inl ⟨by rfl, ?_⟩) ⟨Y_0, Y_1, G_0, G_1⟩ (fun _ => trivial) ?_
  rotate_left; · intro w1 hw1; obtain ⟨hw1, hw2, hw3, hw4⟩ := hw1; go_simp; try with_reducible rfl
  try simp only [Act.put, List.getElem_toArray, List.getElem_cons_zero, List.getElem_cons_succ, List.setIfInBounds_toArray, List.set_cons_zero, List.set_cons_succ]
  refine D_take (i := 27) (v := ?_) rfl (by kernel_rfl) (by kernel_rfl) (by kernel_rfl) (by kernel_rfl) (fun _ _ _ h => h) (Or.inl ⟨by rfl, ?_⟩) ⟨Y_0, Y_1, G_0, G_1⟩ (fun _ => trivial) ?_
  rotate_left; · intro w1 hw1; obtain ⟨hw1, hw2, hw3, hw4⟩ := hw1; go_simp; try with_reducible rfl
  try simp only [Act.put, List.getElem_toArray, List.getElem_cons_zero, List.getElem_cons_succ, List.setIfInBounds_toArray, List.set_cons_zero, List.set_cons_succ]
  refine D_take (i := 28) (v := ?_) rfl (by kernel_rfl) (by kernel_rfl) (by kernel_rfl) (by kernel_rfl) (fun _ _ _ h => h) (Or.inl ⟨by rfl, ?_⟩) ⟨Y_0, Y_1, G_0, G_1⟩ (fun _ => trivial) ?_
  rotate_left; · intro w1 hw1; obtain ⟨hw1, hw2, hw3, hw4⟩ := hw1; go_simp; try with_reducible rfl
  try simp only [Act.put, List.getElem_toArray, List.getElem_cons_zero, List.getElem_cons_succ, List.setIfInBounds_toArray, List.set_cons_zero, List.set_cons_succ]
  refine D_one (i := 29) (by kernel_rfl) rfl ?_
  intro K hK
  rw [if_pos (by rfl)]
  go_wp2_with fail
  refine (q1.out u.start k oku.out.2 _ U1 rb6.out).mono ?_; rintro e U2 ⟨rfl, hN_U2⟩
  replace hT := Lib.hid (Below.then_ hT.out hN_U2)
  replace hP := Lib.hid (Below.then_ hP.out hN_U2)
  replace Y_0 := (hN_U2.cell (World.block_lt_of_cell? _ _ Y_0)).trans Y_0
  replace Y_1 := (hN_U2.cell (World.block_lt_of_cell? _ _ Y_1)).trans Y_1
  replace ra6 := Lib.hid (ra6.out.below hN_U2 (Nat.le_refl _))
  replace rb6 := Lib.hid (rb6.out.below hN_U2 (Nat.le_refl _))
  replace G_0 := (hN_U2.cell (World.block_lt_of_cell? _ _ G_0)).trans G_0
  replace G_1 := (hN_U2.cell (World.block_lt_of_cell? _ _ G_1)).trans G_1
  have z_U2 := hN_U2.size; clear hN_U2
  refine hK _ _ ⟨Y_0, Y_1, G_0, G_1⟩ (fun _ _ => trivial) ?_
  clear hK K
  try simp only [Act.put, List.getElem_toArray, List.getElem_cons_zero, List.getElem_cons_succ, List.setIfInBounds_toArray, List.set_cons_zero, List.set_cons_succ]
  refine D_take (i := 30) (v := ?_) rfl (by kernel_rfl) (by kernel_rfl) (by kernel_rfl) (by kernel_rfl) (fun _ _ _ h => h) (Or.inl ⟨by rfl, ?_⟩) ⟨Y_0, Y_1, G_0, G_1⟩ (fun _ => trivial) ?_
  rotate_left; · intro w1 hw1; obtain ⟨hw1, hw2, hw3, hw4⟩ := hw1; go_simp; try with_reducible rfl
  try simp only [Act.put, List.getElem_toArray, List.getElem_cons_zero, List.getElem_cons_succ, List.setIfInBounds_toArray, List.set_cons_zero, List.set_cons_succ]
  refine D_take (i := 31) (v := ?_) rfl (by kernel_rfl) (by kernel_rfl) (by kernel_rfl) (by kernel_rfl) (fun _ _ _ h => h) (Or.inl ⟨by rfl, ?_⟩) ⟨Y_0, Y_1, G_0, G_1⟩ (fun _ => trivial) ?_
  rotate_left; · intro w1 hw1; obtain ⟨hw1, hw2, hw3, hw4⟩ := hw1; go_simp; try with_reducible rfl
  try simp only [Act.put, List.getElem_toArray, List.getElem_cons_zero, List.getElem_cons_succ, List.setIfInBounds_toArray, List.set_cons_zero, List.set_cons_succ]
  refine D_take (i := 32) (v := ?_) rfl (by kernel_rfl) (by kernel_rfl) (by kernel_rfl) (by kernel_rfl) (fun _ _ _ h => h) (Or.inl ⟨by rfl, ?_⟩) ⟨Y_0, Y_1, G_0, G_1⟩ (fun _ => trivial) ?_
  rotate_left; · intro w1 hw1; obtain ⟨hw1, hw2, hw3, hw4⟩ := hw1; go_simp; try with_reducible rfl
  try simp only [Act.put, List.getElem_toArray, List.getElem_cons_zero, List.getElem_cons_succ, List.setIfInBounds_toArray, List.set_cons_zero, List.set_cons_succ]
  refine D_take (i := 33) (v := ?_) rfl (by kernel_rfl) (by kernel_rfl) (by kernel_rfl) (by kernel_rfl) (fun _ _ _ h => h) (Or.inl ⟨by rfl, ?_⟩) ⟨Y_0, Y_1, G_0, G_1⟩ (fun _ => trivial) ?_
  rotate_left; · intro w1 hw1; obtain ⟨hw1, hw2, hw3, hw4⟩ := hw1; go_simp; try with_reducible rfl
  try simp only [Act.put, List.getElem_toArray, List.getElem_cons_zero, List.getElem_cons_succ, List.setIfInBounds_toArray, List.set_cons_zero, List.set_cons_succ]
  refine D_take (i := 35) (v := ?_) rfl (by kernel_rfl) (by kernel_rfl) (by kernel_rfl) (by kernel_rfl) (fun _ _ _ h => h) (Or.inl ⟨by rfl, ?_⟩) ⟨Y_0, Y_1, G_0, G_1⟩ (fun _ => trivial) ?_
  rotate_left; · intro w1 hw1; obtain ⟨hw1, hw2, hw3, hw4⟩ := hw1; go_simp; try with_reducible rfl
  try simp only [Act.put, List.getElem_toArray, List.getElem_cons_zero, List.getElem_cons_succ, List.setIfInBounds_toArray, List.set_cons_zero, List.set_cons_succ]
  refine D_one (i := 34) (by kernel_rfl) rfl ?_
  intro K hK
  rw [if_pos (by rfl)]
  go_wp2_with fail
  refine (cG4.out _ U2 ⟨_, _, rfl, ra6.out, rb6.out⟩).mono ?_; rintro e U3 ⟨⟨x1, rfl, rx1⟩, hN_U3⟩
  replace hT := Lib.hid (Below.then_ hT.out hN_U3)
  replace hP := Lib.hid (Below.then_ hP.out hN_U3)
  replace Y_0 := (hN_U3.cell (World.block_lt_of_cell? _ _ Y_0)).trans Y_0
  replace Y_1 := (hN_U3.cell (World.block_lt_of_cell? _ _ Y_1)).trans Y_1
  replace ra6 := Lib.hid (ra6.out.below hN_U3 (Nat.le_refl _))
  replace rb6 := Lib.hid (rb6.out.below hN_U3 (Nat.le_refl _))
  replace G_0 := (hN_U3.cell (World.block_lt_of_cell? _ _ G_0)).trans G_0
  replace G_1 := (hN_U3.cell (World.block_lt_of_cell? _ _ G_1)).trans G_1
  have z_U3 := hN_U3.size; clear hN_U3
  refine hK _ _ ⟨Y_0, Y_1, G_0, G_1⟩ (fun _ _ => trivial) ?_
  clear hK K
  try simp only [Act.put, List.getElem_toArray, List.getElem_cons_zero, List.getElem_cons_succ, List.setIfInBounds_toArray, List.set_cons_zero, List.set_cons_succ]
  replace rx1 := Lib.hid rx1
  refine D_one (i := 36) (by kernel_rfl) rfl ?_
  intro K hK
  rw [if_pos (by rfl)]
  go_wp2_with fail
  refine (cG5.out U3 hP.out).mono ?_; rintro e U4 ⟨⟨x2, rfl, rx2⟩, hN_U4⟩
  replace hT := Lib.hid (Below.then_ hT.out hN_U4)
  replace hP := Lib.hid (Below.then_ hP.out hN_U4)
  replace Y_0 := (hN_U4.cell (World.block_lt_of_cell? _ _ Y_0)).trans Y_0
  replace Y_1 := (hN_U4.cell (World.block_lt_of_cell? _ _ Y_1)).trans Y_1
  replace ra6 := Lib.hid (ra6.out.below hN_U4 (Nat.le_refl _))
  replace rb6 := Lib.hid (rb6.out.below hN_U4 (Nat.le_refl _))
  replace G_0 := (hN_U4.cell (World.block_lt_of_cell? _ _ G_0)).trans G_0
  replace G_1 := (hN_U4.cell (World.block_lt_of_cell? _ _ G_1)).trans G_1
  replace rx1 := Lib.hid (rx1.out.below hN_U4 (Nat.le_refl _))
  have z_U4 := hN_U4.size; clear hN_U4
  refine hK _ _ ⟨Y_0, Y_1, G_0, G_1⟩ (fun _ _ => trivial) ?_
  clear hK K
  try simp only [Act.put, List.getElem_toArray, List.getElem_cons_zero, List.getElem_cons_succ, List.setIfInBounds_toArray, List.set_cons_zero, List.set_cons_succ]
  replace rx2 := Lib.hid rx2
  refine D_one (i := 37) (by kernel_rfl) rfl ?_
  intro K hK
  rw [if_pos (by rfl)]
  go_wp2_with fail
  refine (q4.out (firstL u 60) _ _ U4 rx1.out rx2.out).mono ?_; rintro e U5 ⟨rfl, hN_U5⟩
  replace hT := Lib.hid (Below.then_ hT.out hN_U5)
  replace hP := Lib.hid (Below.then_ hP.out hN_U5)
  replace Y_0 := (hN_U5.cell (World.block_lt_of_cell? _ _ Y_0)).trans Y_0
  replace Y_1 := (hN_U5.cell (World.block_lt_of_cell? _ _ Y_1)).trans Y_1
  replace ra6 := Lib.hid (ra6.out.below hN_U5 (Nat.le_refl _))
  replace rb6 := Lib.hid (rb6.out.below hN_U5 (Nat.le_refl _))
  replace G_0 := (hN_U5.cell (World.block_lt_of_cell? _ _ G_0)).trans G_0
  replace G_1 := (hN_U5.cell (World.block_lt_of_cell? _ _ G_1)).trans G_1
  replace rx1 := Lib.hid (rx1.out.below hN_U5 (Nat.le_refl _))
  replace rx2 := Lib.hid (rx2.out.below hN_U5 (Nat.le_refl _))
  have z_U5 := hN_U5.size; clear hN_U5
  refine hK _ _ ⟨Y_0, Y_1, G_0, G_1⟩ (fun _ _ => trivial) ?_
  clear hK K
  try simp only [Act.put, List.getElem_toArray, List.getElem_cons_zero, List.getElem_cons_succ, List.setIfInBounds_toArray, List.set_cons_zero, List.set_cons_succ]
  refine D_take (i := 38) (v := ?_) rfl (by kernel_rfl) (by kernel_rfl) (by kernel_rfl) (by kernel_rfl) (fun _ _ _ h => h) (Or.inl ⟨by rfl, ?_⟩) ⟨Y_0, Y_1, G_0, G_1⟩ (fun _ => trivial) ?_
  rotate_left; · intro w1 hw1; obtain ⟨hw1, hw2, hw3, hw4⟩ := hw1; go_simp; try with_reducible rfl
  try simp only [Act.put, List.getElem_toArray, List.getElem_cons_zero, List.getElem_cons_succ, List.setIfInBounds_toArray, List.set_cons_zero, List.set_cons_succ]
  refine D_take (i := 39) (v := ?_) rfl (by kernel_rfl) (by kernel_rfl) (by kernel_rfl) (by kernel_rfl) (fun _ _ _ h => h) (Or.inl ⟨by rfl, ?_⟩) ⟨Y_0, Y_1, G_0, G_1⟩ (fun _ => trivial) ?_
  rotate_left; · intro w1 hw1; obtain ⟨hw1, hw2, hw3, hw4⟩ := hw1; go_simp; try with_reducible rfl
  try simp only [Act.put, List.getElem_toArray, List.getElem_cons_zero, List.getElem_cons_succ, List.setIfInBounds_toArray, List.set_cons_zero, List.set_cons_succ]
  refine D_done (by kernel_rfl) ?_ _
  clear rx1 rx2
  clear cG4 cG5 q1
  go_wp2_with fail
  refine (cG6.out U5 hP.out).mono ?_; rintro e U6 ⟨⟨x3, rfl, rx3⟩, hN3⟩
  replace hT := Lib.hid (Below.then_ hT.out hN3)
  replace hP := Lib.hid (Below.then_ hP.out hN3)
  replace Y_0 := (hN3.cell (World.block_lt_of_cell? _ _ Y_0)).trans Y_0
  replace Y_1 := (hN3.cell (World.block_lt_of_cell? _ _ Y_1)).trans Y_1
  replace ra6 := Lib.hid (ra6.out.below hN3 (Nat.le_refl _))
  replace rb6 := Lib.hid (rb6.out.below hN3 (Nat.le_refl _))
  replace G_0 := (hN3.cell (World.block_lt_of_cell? _ _ G_0)).trans G_0
  replace G_1 := (hN3.cell (World.block_lt_of_cell? _ _ G_1)).trans G_1
  have z_U6 := hN3.size; clear hN3
  go_wp2_with fail
  refine (cA.out _ U6 rx3).mono ?_; rintro e U7 ⟨v7, rfl, or7, hN4⟩
  replace hT := Lib.hid (Below.then_ hT.out hN4)
  replace hP := Lib.hid (Below.then_ hP.out hN4)
  replace Y_0 := (hN4.cell (World.block_lt_of_cell? _ _ Y_0)).trans Y_0
  replace Y_1 := (hN4.cell (World.block_lt_of_cell? _ _ Y_1)).trans Y_1
  replace ra6 := Lib.hid (ra6.out.below hN4 (Nat.le_refl _))
  replace rb6 := Lib.hid (rb6.out.below hN4 (Nat.le_refl _))
  replace G_0 := (hN4.cell (World.block_lt_of_cell? _ _ G_0)).trans G_0
  replace G_1 := (hN4.cell (World.block_lt_of_cell? _ _ G_1)).trans G_1
  have z_U7 := hN4.size; clear hN4
  change OwnR _ _ _ u at or7
  obtain ⟨a7, b7, rfl, oa, ob⟩ := or7
  obtain ⟨A7, c7, rfl⟩ := own_shape oa
  obtain ⟨B7, d7, rfl⟩ := own_shape ob
  have ra7 := Lib.hid (oa.rd (by have := oku.out.1.1; omega))
  have rb7 := Lib.hid (ob.rd (by have := oku.out.2.1; omega))
  rw [oku.out.1.1] at ra7 ⊢
  rw [oku.out.2.1] at rb7 ⊢
  clear oa ob rx3 cA cG6
  obtain ⟨hN5, F_0, F_1, F_z⟩ := box_new U7 (.slice A7 k c7) (.slice B7 k d7) 49
  replace hT := Lib.hid (Below.then_ hT.out hN5)
  replace hP := Lib.hid (Below.then_ hP.out hN5)
  replace Y_0 := (hN5.cell (World.block_lt_of_cell? _ _ Y_0)).trans Y_0
  replace Y_1 := (hN5.cell (World.block_lt_of_cell? _ _ Y_1)).trans Y_1
  replace ra6 := Lib.hid (ra6.out.below hN5 (Nat.le_refl _))
  replace rb6 := Lib.hid (rb6.out.below hN5 (Nat.le_refl _))
  replace G_0 := (hN5.cell (World.block_lt_of_cell? _ _ G_0)).trans G_0
  replace G_1 := (hN5.cell (World.block_lt_of_cell? _ _ G_1)).trans G_1
  replace ra7 := Lib.hid (ra7.out.below hN5 (Nat.le_refl _))
  replace rb7 := Lib.hid (rb7.out.below hN5 (Nat.le_refl _))
  go_wp2_with fail
  generalize U7.alloc (.cells #[.slice A7 k c7, .slice B7 k d7] 49) = F at *
  clear hN5
  refine (q4.out u.by_ _ _ F ra7.out ra6.out).mono ?_; rintro e U8 ⟨rfl, hN6⟩
  replace hT := Lib.hid (Below.then_ hT.out hN6)
  replace hP := Lib.hid (Below.then_ hP.out hN6)
  replace Y_0 := (hN6.cell (World.block_lt_of_cell? _ _ Y_0)).trans Y_0
  replace Y_1 := (hN6.cell (World.block_lt_of_cell? _ _ Y_1)).trans Y_1
  replace ra6 := Lib.hid (ra6.out.below hN6 (Nat.le_refl _))
  replace rb6 := Lib.hid (rb6.out.below hN6 (Nat.le_refl _))
  replace G_0 := (hN6.cell (World.block_lt_of_cell? _ _ G_0)).trans G_0
  replace G_1 := (hN6.cell (World.block_lt_of_cell? _ _ G_1)).trans G_1
  replace ra7 := Lib.hid (ra7.out.below hN6 (Nat.le_refl _))
  replace rb7 := Lib.hid (rb7.out.below hN6 (Nat.le_refl _))
  replace F_0 := (hN6.cell (World.block_lt_of_cell? _ _ F_0)).trans F_0
  replace F_1 := (hN6.cell (World.block_lt_of_cell? _ _ F_1)).trans F_1
  have z_U8 := hN6.size; clear hN6
  go_wp2_with fail
  refine (q4.out u.start _ _ U8 rb7.out rb6.out).mono ?_; rintro e U9 ⟨rfl, hN7⟩
  replace hT := Lib.hid (Below.then_ hT.out hN7)
  replace hP := Lib.hid (Below.then_ hP.out hN7)
  replace Y_0 := (hN7.cell (World.block_lt_of_cell? _ _ Y_0)).trans Y_0
  replace Y_1 := (hN7.cell (World.block_lt_of_cell? _ _ Y_1)).trans Y_1
  replace ra6 := Lib.hid (ra6.out.below hN7 (Nat.le_refl _))
  replace rb6 := Lib.hid (rb6.out.below hN7 (Nat.le_refl _))
  replace G_0 := (hN7.cell (World.block_lt_of_cell? _ _ G_0)).trans G_0
  replace G_1 := (hN7.cell (World.block_lt_of_cell? _ _ G_1)).trans G_1
  replace ra7 := Lib.hid (ra7.out.below hN7 (Nat.le_refl _))
  replace rb7 := Lib.hid (rb7.out.below hN7 (Nat.le_refl _))
  replace F_0 := (hN7.cell (World.block_lt_of_cell? _ _ F_0)).trans F_0
  replace F_1 := (hN7.cell (World.block_lt_of_cell? _ _ F_1)).trans F_1
  have z_U9 := hN7.size; clear hN7
  go_wp2_with fail
  refine (hA.out U9 hT.out).mono ?_; rintro e V8 ⟨rfl, hN8⟩
  replace hT := Lib.hid (Below.then_ hT.out hN8)
  replace hP := Lib.hid (Below.then_ hP.out hN8)
  replace Y_0 := (hN8.cell (World.block_lt_of_cell? _ _ Y_0)).trans Y_0
  replace Y_1 := (hN8.cell (World.block_lt_of_cell? _ _ Y_1)).trans Y_1
  replace ra6 := Lib.hid (ra6.out.below hN8 (Nat.le_refl _))
  replace rb6 := Lib.hid (rb6.out.below hN8 (Nat.le_refl _))
  replace G_0 := (hN8.cell (World.block_lt_of_cell? _ _ G_0)).trans G_0
  replace G_1 := (hN8.cell (World.block_lt_of_cell? _ _ G_1)).trans G_1
  replace ra7 := Lib.hid (ra7.out.below hN8 (Nat.le_refl _))
  replace rb7 := Lib.hid (rb7.out.below hN8 (Nat.le_refl _))
  replace F_0 := (hN8.cell (World.block_lt_of_cell? _ _ F_0)).trans F_0
  replace F_1 := (hN8.cell (World.block_lt_of_cell? _ _ F_1)).trans F_1
  clear hN8
  go_wp2
  go_ret
  exact ⟨rfl, hT.out⟩
end Go.Proofs.YtfljkcmijnhgkaaDoor
