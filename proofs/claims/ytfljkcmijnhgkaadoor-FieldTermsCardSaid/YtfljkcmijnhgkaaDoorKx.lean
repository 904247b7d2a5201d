/- FieldProducts: its contract. FieldTerms: its contract. THE LAW FieldTerms OF LAYER 16 ANSWERS true AT EVERY INPUT, and its arguments read behind the call as before: its tied card. Condition: the table joins is as the program's text lays it, and no argument weighs more than the reach. -/
import Derived.Test.YtfljkcmijnhgkaaDoorKr
import Derived.Test.YtfljkcmijnhgkaaDoorKn
import Derived.Test.YtfljkcmijnhgkaaDoorKv
import Derived.Test.YtfljkcmijnhgkaaDoorKw
import Derived.Test.YtfljkcmijnhgkaaDoorKs
import Derived.Test.YtfljkcmijnhgkaaDoorCards
namespace Go.Proofs.YtfljkcmijnhgkaaDoor
open Go.RowKit Go.Shelf
set_option linter.unusedSimpArgs false

/-- A matrix of which no row is empty, and that is not too great. -/
def Small (rs : List (List Int)) : Prop := rs.length ≤ 1000 ∧ ∀ r ∈ rs, 0 < r.length ∧ r.length ≤ 1000
theorem Small_nil : Small [] := ⟨by decide, fun r hr => by cases hr⟩
theorem Small_ok {rs : List (List Int)} {n m : Nat} (h : okM rs n m) (hn : n ≤ 1000) (h0 : 0 < m) (hm : m ≤ 1000) : Small rs := ⟨by rw [h.1]; exact hn, fun r hr => by rw [(h.2 r hr).1]; exact ⟨h0, hm⟩⟩
theorem Small.row {rs : List (List Int)} (h : Small rs) {k : Nat} (hk : k < rs.length) : 0 < (rs.getD k []).length := by
  rw [List.getD_eq_getElem?_getD, List.getElem?_eq_getElem hk]
  exact (h.2 _ (List.getElem_mem hk)).1
theorem Small.rd {rs : List (List Int)} (h : Small rs) {w : World} {base : Nat} {v : Value} (ho : OwnM w base v rs) : RdM w v rs := ho.rd (by have := h.1; omega) (fun r hr => by have := (h.2 r hr).2; omega)
theorem Small.fresh {rs : List (List Int)} (h : Small rs) {w : World} {base : Nat} {v : Value} (ho : OwnM w base v rs) : FreshV base w.heap.size w v rs.length fun k => (rs.getD k []).length := ho.fresh (by have := h.1; omega) (fun r hr => by have := (h.2 r hr).2; omega)
theorem mulR_small (a b : List (List Int)) : Small (mulR a b).2 := by
  unfold mulR
  split
  · exact Small_nil
  · rename_i h1
    split
    · exact Small_nil
    · rename_i h2
      split
      · exact Small_nil
      · rename_i h3
        obtain ⟨ha, p1, p2, p3, p4⟩ := checkM_ok (by simpa using h1)
        obtain ⟨hb, q1, q2, q3, q4⟩ := checkM_ok (by simpa using h2)
        have e : len0 a = b.length := by simpa using h3
        rw [e] at ha
        exact Small_ok (okM_prod ha hb (by omega)) (by omega) (by omega) (by omega)
theorem powR_small (a : List (List Int)) (n : Int) : Small (powR a n).2 := by
  unfold powR
  split
  · exact Small_nil
  · rename_i h1
    split
    · exact Small_nil
    · obtain ⟨ha, p1, p2⟩ := squareM_ok (by simpa using h1)
      exact Small_ok (okM_powMat (by omega) ha _) (by omega) (by omega) (by omega)
theorem greatM_not {rs : List (List Int)} (h : greatM rs = false) : rs.length ≤ 20 ∧ ∀ r ∈ rs, r.length ≤ 20 := by
  simp only [greatM, Bool.or_eq_false_iff, decide_eq_false_iff_not, List.any_eq_false, decide_eq_true_eq] at h
  exact ⟨by omega, fun r hr => by have := h.2 r hr; omega⟩
set_option maxRecDepth 100000 in
set_option maxHeartbeats 3200000 in
theorem FieldProducts_any (a b : List (List Int)) (n : Int) (va vb : Value) (w : World) (ra : RdM w va a) (rb : RdM w vb b) (_hn0 : -9223372036854775808 ≤ n) (hn : n ≤ 9223372036854775807) (hJ : Joins w) :
    Calls Tryd.prog 9 #[va, vb, .int .i64 n] w fun e w' => e = .returned (.bool true) ∧ Below w.heap.size w w' := by
  have hg1 := Lib.hid (great_any a va w ra)
  have hg2 := Lib.hid (fun W (hW : Below w.heap.size w W) => great_any b vb W (rb.below hW (Nat.le_refl _)))
  have hA := Lib.hid (fun W (hW : Below w.heap.size w W) => awake_any W (hJ.below hW))
  cases e1 : greatM a with
  | true =>
    rw [e1] at hg1
    replace e1 := Lib.hid e1
    go_enter Tryd.func9, Tryd.ntmps9
    go_wp2_with fail
    refine hg1.out.mono ?_; rintro e W1 ⟨rfl, hB1⟩
    go_wp2_with fail
    refine (hA.out W1 hB1).mono ?_; rintro e W2 ⟨rfl, hB2⟩
    go_wp2
    go_ret
    exact ⟨rfl, Below.then_ hB1 hB2⟩
  | false =>
    rw [e1] at hg1
    cases e2 : greatM b with
    | true =>
      simp only [e2] at hg2
      replace e1 := Lib.hid e1
      replace e2 := Lib.hid e2
      go_enter Tryd.func9, Tryd.ntmps9
      go_wp2_with fail
      refine hg1.out.mono ?_; rintro e W1 ⟨rfl, hB1⟩
      go_wp2_with fail
      refine (hg2.out W1 hB1).mono ?_; rintro e W2 ⟨rfl, hB2⟩
      have hB3 := Below.then_ hB1 hB2
      go_wp2_with fail
      refine (hA.out W2 hB3).mono ?_; rintro e W3 ⟨rfl, hB4⟩
      go_wp2
      go_ret
      exact ⟨rfl, Below.then_ hB3 hB4⟩
    | false =>
      simp only [e2] at hg2
      obtain ⟨la, ma⟩ := greatM_not e1
      obtain ⟨lb, mb⟩ := greatM_not e2
      have da := Lib.hid (fun W (hW : Below w.heap.size w W) => DupRows_any a va W (ra.below hW (Nat.le_refl _)) (by omega) (fun r hr => by have := ma r hr; omega))
      have db := Lib.hid (fun W (hW : Below w.heap.size w W) => DupRows_any b vb W (rb.below hW (Nat.le_refl _)) (by omega) (fun r hr => by have := mb r hr; omega))
      have rm := Lib.hid (fun W (hW : Below w.heap.size w W) => refMul_any a b va vb W (ra.below hW (Nat.le_refl _)) (rb.below hW (Nat.le_refl _)))
      have rp := Lib.hid (fun W (hW : Below w.heap.size w W) => refPower_any a n va W (ra.below hW (Nat.le_refl _)) hn)
      have rc := Lib.hid (fun W (hW : Below w.heap.size w W) => refCheck_any a va W (ra.below hW (Nat.le_refl _)))
      have fm := Lib.hid (fun vx vy W hx hy => Mul_any a b vx vy W hx hy)
      have fp := Lib.hid (fun vx W hx => Power_any a n vx W hx hn)
      have fc := Lib.hid (fun vx W hx => Check_any a vx W hx)
      have sm := Lib.hid (mulR_small a b)
      have sp := Lib.hid (powR_small a n)
      have rdA : Hid (∀ W base v, OwnM W base v a → RdM W v a) := Lib.hid (fun W base v h => h.rd (by omega) (fun r hr => by have := ma r hr; omega))
      have rdB : Hid (∀ W base v, OwnM W base v b → RdM W v b) := Lib.hid (fun W base v h => h.rd (by omega) (fun r hr => by have := mb r hr; omega))
      replace ra := Lib.hid ra
      replace rb := Lib.hid rb
      clear hJ la ma lb mb e1 e2 hn
      generalize mulR a b = M at *
      generalize powR a n = Q at *
      generalize checkM a = C at *
      obtain ⟨Me, M⟩ := M
      obtain ⟨Qe, Q⟩ := Q
      simp only [MatErr] at rm rp fm fp sm sp
      go_enter Tryd.func9, Tryd.ntmps9
      go_wp2_with fail
      refine hg1.out.mono ?_; rintro e W1 ⟨rfl, hB1⟩
      go_wp2_with fail
      refine (hg2.out W1 hB1).mono ?_; rintro e W2 ⟨rfl, hB2⟩
      replace hB2 := Lib.hid (Below.then_ hB1 hB2)
      clear hB1 hg1 hg2
      go_wp2_with fail
      refine (da.out W2 hB2.out).mono ?_; rintro e W3 ⟨⟨x, rfl, ox⟩, hB3⟩
      replace hB3 := Lib.hid (Below.then_ hB2.out hB3)
      have rx := Lib.hid (rdA.out _ _ _ ox)
      clear ox
      go_wp2_with fail
      refine (db.out W3 hB3.out).mono ?_; rintro e W4 ⟨⟨y, rfl, oy⟩, hB4⟩
      replace rx := Lib.hid (rx.out.below hB4 (Nat.le_refl _))
      replace hB4 := Lib.hid (Below.then_ hB3.out hB4)
      have ry := Lib.hid (rdB.out _ _ _ oy)
      clear oy da db hB2 hB3
      go_wp2_with fail
      refine (rm.out W4 hB4.out).mono ?_; rintro e W5 ⟨m, rfl, om, hB5⟩
      replace rx := Lib.hid (rx.out.below hB5 (Nat.le_refl _))
      replace ry := Lib.hid (ry.out.below hB5 (Nat.le_refl _))
      replace hB5 := Lib.hid (Below.then_ hB4.out hB5)
      have rM := Lib.hid (sm.out.rd om)
      clear om rm hB4
      go_wp2_with fail
      refine (rp.out W5 hB5.out).mono ?_; rintro e W6 ⟨p, rfl, op, hB6⟩
      replace rx := Lib.hid (rx.out.below hB6 (Nat.le_refl _))
      replace ry := Lib.hid (ry.out.below hB6 (Nat.le_refl _))
      replace rM := Lib.hid (rM.out.below hB6 (Nat.le_refl _))
      replace hB6 := Lib.hid (Below.then_ hB5.out hB6)
      have rQ := Lib.hid (sp.out.rd op)
      clear op rp hB5
      go_wp2_with fail
      refine (fm.out x y W6 rx.out ry.out).mono ?_; rintro e W7 ⟨k, rfl, ok, hB7⟩
      replace hB7 := Lib.hid hB7
      replace ok := Lib.hid ok
      have fk := Lib.hid (sm.out.fresh ok.out)
      clear fm
      go_wp2_with fail
      refine (fp.out x W7 (rx.out.below hB7.out (Nat.le_refl _))).mono ?_; rintro e W8 ⟨q, rfl, oq, hB8⟩
      have hB68 := Lib.hid (Below.then_ hB7.out hB8)
      replace fk := Lib.hid (fk.out.kept hB8)
      replace ok := Lib.hid (ok.out.below hB8)
      have h78 := hB8.size
      have h67 := hB7.out.size
      clear hB7 hB8 fp
      replace oq := Lib.hid oq
      go_wp2_with fail
      refine (fc.out x W8 (rx.out.below hB68.out (Nat.le_refl _))).mono ?_; rintro e W9 ⟨rfl, hB9⟩
      replace fk := Lib.hid (fk.out.kept hB9)
      replace ok := Lib.hid (ok.out.below hB9)
      replace oq := Lib.hid (oq.out.below hB9)
      have h89 := hB9.size
      replace hB9 := Lib.hid (Below.then_ hB68.out hB9)
      clear fc hB68
      go_wp2_with fail
      refine (rc.out W9 (Below.then_ hB6.out hB9.out)).mono ?_; rintro e W10 ⟨rfl, hB10⟩
      replace fk := Lib.hid (fk.out.kept hB10)
      replace ok := Lib.hid (ok.out.below hB10)
      replace oq := Lib.hid (oq.out.below hB10)
      have h910 := hB10.size
      replace hB10 := Lib.hid (Below.then_ hB9.out hB10)
      clear rc hB9
      have t1 := Lib.hid (told_any M M k m Me Me W6.heap.size W7.heap.size _ W10 (sm.out.rd ok.out) (rM.out.below hB10.out (Nat.le_refl _)) fk.out (fun j hj => sm.out.row hj))
      rw [show (decide (Me = Me) && decide (M = M)) = true by simp] at t1
      clear ok fk
      go_wp2_with fail
      refine t1.out.mono ?_; rintro e W11 ⟨rfl, hT1⟩
      clear t1
      have h1011 := hT1.size
      replace oq := Lib.hid (hT1.ownM oq.out (Nat.le_refl _))
      have hB11 := Lib.hid (hB10.out.trans (hT1.below (by omega)))
      clear hT1 hB10
      have t2 := Lib.hid (told_any Q Q q p Qe Qe W7.heap.size W11.heap.size _ W11 (sp.out.rd oq.out) (rQ.out.below hB11.out (Nat.le_refl _)) (sp.out.fresh oq.out) (fun j hj => sp.out.row hj))
      clear oq
      rw [show (decide (Qe = Qe) && decide (Q = Q)) = true by simp] at t2
      go_wp2_with fail
      refine t2.out.mono ?_; rintro e W12 ⟨rfl, hT2⟩
      clear t2
      have hB12 := Lib.hid (hB11.out.trans ((hT2.below (by omega)).mono h67))
      clear hT2 hB11
      have q1 := Lib.hid (EqRows_any a a x va W12 (rx.out.below hB12.out (Nat.le_refl _)) (ra.out.below (Below.then_ hB6.out hB12.out) (Nat.le_refl _)))
      rw [decide_eq_true rfl] at q1
      go_wp2_with fail
      refine q1.out.mono ?_; rintro e W13 ⟨rfl, hB13⟩
      replace hB13 := Lib.hid (Below.then_ hB12.out hB13)
      clear q1 hB12
      have q2 := Lib.hid (EqRows_any b b y vb W13 (ry.out.below hB13.out (Nat.le_refl _)) (rb.out.below (Below.then_ hB6.out hB13.out) (Nat.le_refl _)))
      rw [decide_eq_true rfl] at q2
      go_wp2_with fail
      refine q2.out.mono ?_; rintro e W14 ⟨rfl, hB14⟩
      replace hB14 := Lib.hid (Below.then_ hB6.out (Below.then_ hB13.out hB14))
      clear q2 hB13
      go_wp2_with fail
      refine (hA.out W14 hB14.out).mono ?_; rintro e W15 ⟨rfl, hB15⟩
      go_wp2
      go_ret
      exact ⟨rfl, Below.then_ hB14.out hB15⟩
end Go.Proofs.YtfljkcmijnhgkaaDoor

namespace Go.Proofs.YtfljkcmijnhgkaaDoor
open Go.RowKit Go.Shelf
set_option linter.unusedSimpArgs false

theorem termsR_len (r : Rule) (n : Int) : (termsR r n).2.length ≤ 1000 := by
  unfold termsR
  split
  · simp
  · split
    · simp
    · have : ∀ k, (firstL r k).length = k := fun k => by induction k with
        | zero => rfl
        | succ k ih => simp [firstL, ih]
      rw [this]; omega
theorem matR_small (r : Rule) : Small (matR r).2 := by
  unfold matR
  split
  · exact Small_nil
  · rename_i h1
    split
    · exact Small_nil
    · rename_i h2
      obtain ⟨o1, -, o3, -⟩ := rightR_ok (by simpa using h1)
      exact Small_ok (okM_comp o3) (by omega) (by omega) (by omega)
set_option maxRecDepth 100000 in
set_option maxHeartbeats 6400000 in
theorem FieldTerms_any (r : Rule) (n far : Int) (v : Value) (w : World) (h : RdR w v r) (_hn0 : -9223372036854775808 ≤ n) (_hn : n ≤ 9223372036854775807) (_hf0 : -9223372036854775808 ≤ far) (hf : far ≤ 9223372036854775807) (hJ : Joins w) :
    Calls Tryd.prog 13 #[v, .int .i64 n, .int .i64 far] w fun e w' => e = .returned (.bool true) ∧ Below w.heap.size w w' := by
  have hR := Lib.hid h
  obtain ⟨Aa, na, ca, Ab, nb, cb, rfl⟩ := h.shape
  clear h
  obtain ⟨hT, X0_0, X0_1, X0_z⟩ := box_new w (.slice Aa na ca) (.slice Ab nb cb) 49
  replace hT := Lib.hid hT
  have hg := Lib.hid (fun W (hW : Below w.heap.size w W) => huge_any r _ W (hR.out.below hW (Nat.le_refl _)))
  have hA := Lib.hid (fun W (hW : Below w.heap.size w W) => awake_any W (hJ.below hW))
  clear hJ
  cases e1 : hugeR r with
  | true =>
    rw [e1] at hg
    replace e1 := Lib.hid e1
    go_enter Tryd.func13, Tryd.ntmps13
    go_wp2_with fail
    generalize w.alloc (.cells #[.slice Aa na ca, .slice Ab nb cb] 49) = X0 at *
    refine (hg.out X0 hT.out).mono ?_; rintro e V1 ⟨rfl, hN1⟩
    replace hT := Lib.hid (Below.then_ hT.out hN1)
    clear hN1
    go_wp2_with fail
    refine (hA.out V1 hT.out).mono ?_; rintro e V2 ⟨rfl, hN2⟩
    replace hT := Lib.hid (Below.then_ hT.out hN2)
    clear hN2
    go_wp2
    go_ret
    exact ⟨rfl, hT.out⟩
  | false =>
    rw [e1] at hg
    obtain ⟨l1, l2⟩ : r.by_.length ≤ 1000 ∧ r.start.length ≤ 1000 := by
      simp only [hugeR, Bool.or_eq_false_iff, decide_eq_false_iff_not] at e1; omega
    have ho := Lib.hid (fun W (hW : Below w.heap.size w W) => Own_any r _ W (hR.out.below hW (Nat.le_refl _)) l1 l2)
    have t1 := Lib.hid (fun W (hW : Below w.heap.size w W) => refTerms_any r n _ W (hR.out.below hW (Nat.le_refl _)))
    have t2 := Lib.hid (fun W (hW : Below w.heap.size w W) => refTerm_any r far _ W hf (hR.out.below hW (Nat.le_refl _)))
    have t3 := Lib.hid (fun W (hW : Below w.heap.size w W) => refFrom_any r far _ W hf (hR.out.below hW (Nat.le_refl _)))
    have t4 := Lib.hid (fun W (hW : Below w.heap.size w W) => refMatrix_any r _ W (hR.out.below hW (Nat.le_refl _)))
    have t5 := Lib.hid (fun W (hW : Below w.heap.size w W) => refRight_any r _ W (hR.out.below hW (Nat.le_refl _)))
    have p1 := Lib.hid (fun u W hu => fieldTerms_any r n u W hu)
    have p2 := Lib.hid (fun u W hu => Term_any r far u W hf hu)
    have p3 := Lib.hid (fun u W hu => From_any r far u W hf hu)
    have p4 := Lib.hid (fun u W hu => Matrix_any r u W hu)
    have p5 := Lib.hid (fun u W hu => Right_any r u W hu)
    have sR := Lib.hid (fun u W hu hW => (sameR_self r) ▸ Same_any r r u (.agg #[.slice Aa na ca, .slice Ab nb cb]) W hu (hR.out.below (B := w.heap.size) hW (Nat.le_refl _)))
    have lT := Lib.hid (termsR_len r n)
    have lF := Lib.hid (frR_len r far)
    have sM := Lib.hid (matR_small r)
    generalize termsR r n = T at *
    generalize frR r far = F at *
    generalize matR r = M at *
    generalize termR r far = K at *
    generalize rightR r = x at *
    obtain ⟨Te, T⟩ := T
    obtain ⟨Fe, F⟩ := F
    obtain ⟨Me, M⟩ := M
    obtain ⟨Kv, Ke⟩ := K
    have qT := Lib.hid (fun v u W h1 h2 => (Equal_any T T v u W h1 h2))
    rw [decide_eq_true rfl] at qT
    simp only [RowErr, RuleErr, MatErr] at t1 t2 t3 t4 p1 p2 p3 p4 lT lF sM
    clear hR
    replace e1 := Lib.hid e1
    go_enter Tryd.func13, Tryd.ntmps13
    go_wp2_with fail
    generalize w.alloc (.cells #[.slice Aa na ca, .slice Ab nb cb] 49) = X0 at *
    refine (hg.out X0 hT.out).mono ?_; rintro e V1 ⟨rfl, hN1⟩
    replace hT := Lib.hid (Below.then_ hT.out hN1)
    replace X0_0 := (hN1.cell (World.block_lt_of_cell? _ _ X0_0)).trans X0_0
    replace X0_1 := (hN1.cell (World.block_lt_of_cell? _ _ X0_1)).trans X0_1
    clear hN1
    go_wp2_with fail
    refine (ho.out V1 hT.out).mono ?_; rintro e A1 ⟨⟨u, rfl, ou⟩, hN2⟩
    replace hT := Lib.hid (Below.then_ hT.out hN2)
    replace X0_0 := (hN2.cell (World.block_lt_of_cell? _ _ X0_0)).trans X0_0
    replace X0_1 := (hN2.cell (World.block_lt_of_cell? _ _ X0_1)).trans X0_1
    have z_A1 := hN2.size; clear hN2
    have ru := Lib.hid (ou.rd l1 l2)
    obtain ⟨uA, un, uc, uB, um, ud, rfl⟩ := ou.shape
    clear ou
    obtain ⟨hN3, X1_0, X1_1, X1_z⟩ := box_new A1 (.slice uA un uc) (.slice uB um ud) 49
    replace hT := Lib.hid (Below.then_ hT.out hN3)
    replace X0_0 := (hN3.cell (World.block_lt_of_cell? _ _ X0_0)).trans X0_0
    replace X0_1 := (hN3.cell (World.block_lt_of_cell? _ _ X0_1)).trans X0_1
    replace ru := Lib.hid (ru.out.below hN3 (Nat.le_refl _))
    go_wp2_with fail
    generalize A1.alloc (.cells #[.slice uA un uc, .slice uB um ud] 49) = X1 at *
    clear hN3
    refine (t1.out X1 hT.out).mono ?_; rintro e A2 ⟨tv, rfl, ot, hN4⟩
    replace hT := Lib.hid (Below.then_ hT.out hN4)
    replace X0_0 := (hN4.cell (World.block_lt_of_cell? _ _ X0_0)).trans X0_0
    replace X0_1 := (hN4.cell (World.block_lt_of_cell? _ _ X0_1)).trans X0_1
    replace ru := Lib.hid (ru.out.below hN4 (Nat.le_refl _))
    replace X1_0 := (hN4.cell (World.block_lt_of_cell? _ _ X1_0)).trans X1_0
    replace X1_1 := (hN4.cell (World.block_lt_of_cell? _ _ X1_1)).trans X1_1
    have z_A2 := hN4.size; clear hN4
    change OwnI _ _ _ T at ot
    have rt := Lib.hid (ot.rd (by have := lT.out; omega))
    clear ot
    go_wp2_with fail
    refine (t2.out A2 hT.out).mono ?_; rintro e A3 ⟨rfl, hN5⟩
    replace hT := Lib.hid (Below.then_ hT.out hN5)
    replace X0_0 := (hN5.cell (World.block_lt_of_cell? _ _ X0_0)).trans X0_0
    replace X0_1 := (hN5.cell (World.block_lt_of_cell? _ _ X0_1)).trans X0_1
    replace ru := Lib.hid (ru.out.below hN5 (Nat.le_refl _))
    replace X1_0 := (hN5.cell (World.block_lt_of_cell? _ _ X1_0)).trans X1_0
    replace X1_1 := (hN5.cell (World.block_lt_of_cell? _ _ X1_1)).trans X1_1
    replace rt := Lib.hid (rt.out.below hN5 (Nat.le_refl _))
    have z_A3 := hN5.size; clear hN5
    go_wp2_with fail
    refine (t3.out A3 hT.out).mono ?_; rintro e A4 ⟨fv, rfl, of, hN6⟩
    replace hT := Lib.hid (Below.then_ hT.out hN6)
    replace X0_0 := (hN6.cell (World.block_lt_of_cell? _ _ X0_0)).trans X0_0
    replace X0_1 := (hN6.cell (World.block_lt_of_cell? _ _ X0_1)).trans X0_1
    replace ru := Lib.hid (ru.out.below hN6 (Nat.le_refl _))
    replace X1_0 := (hN6.cell (World.block_lt_of_cell? _ _ X1_0)).trans X1_0
    replace X1_1 := (hN6.cell (World.block_lt_of_cell? _ _ X1_1)).trans X1_1
    replace rt := Lib.hid (rt.out.below hN6 (Nat.le_refl _))
    have z_A4 := hN6.size; clear hN6
    change OwnR _ _ _ F at of
    have rf := Lib.hid (of.rd (by have := lF.out.2; omega) (by have := lF.out.1; omega))
    obtain ⟨fA, fn, fc, fB, fm, fd, rfl⟩ := of.shape
    clear of
    obtain ⟨hN7, X2_0, X2_1, X2_z⟩ := box_new A4 (.slice fA fn fc) (.slice fB fm fd) 49
    replace hT := Lib.hid (Below.then_ hT.out hN7)
    replace X0_0 := (hN7.cell (World.block_lt_of_cell? _ _ X0_0)).trans X0_0
    replace X0_1 := (hN7.cell (World.block_lt_of_cell? _ _ X0_1)).trans X0_1
    replace ru := Lib.hid (ru.out.below hN7 (Nat.le_refl _))
    replace X1_0 := (hN7.cell (World.block_lt_of_cell? _ _ X1_0)).trans X1_0
    replace X1_1 := (hN7.cell (World.block_lt_of_cell? _ _ X1_1)).trans X1_1
    replace rt := Lib.hid (rt.out.below hN7 (Nat.le_refl _))
    replace rf := Lib.hid (rf.out.below hN7 (Nat.le_refl _))
    go_wp2_with fail
    generalize A4.alloc (.cells #[.slice fA fn fc, .slice fB fm fd] 49) = X2 at *
    clear hN7
    refine (t4.out X2 hT.out).mono ?_; rintro e P0 ⟨mv, rfl, om, hN8⟩
    replace hT := Lib.hid (Below.then_ hT.out hN8)
    replace X0_0 := (hN8.cell (World.block_lt_of_cell? _ _ X0_0)).trans X0_0
    replace X0_1 := (hN8.cell (World.block_lt_of_cell? _ _ X0_1)).trans X0_1
    replace ru := Lib.hid (ru.out.below hN8 (Nat.le_refl _))
    replace X1_0 := (hN8.cell (World.block_lt_of_cell? _ _ X1_0)).trans X1_0
    replace X1_1 := (hN8.cell (World.block_lt_of_cell? _ _ X1_1)).trans X1_1
    replace rt := Lib.hid (rt.out.below hN8 (Nat.le_refl _))
    replace rf := Lib.hid (rf.out.below hN8 (Nat.le_refl _))
    replace X2_0 := (hN8.cell (World.block_lt_of_cell? _ _ X2_0)).trans X2_0
    replace X2_1 := (hN8.cell (World.block_lt_of_cell? _ _ X2_1)).trans X2_1
    have z_P0 := hN8.size; clear hN8
    change OwnM _ _ _ M at om
    have rm := Lib.hid (sM.out.rd om)
    clear om t1 t2 t3 t4 ho hg
    have hP := Lib.hid (Below.refl P0.heap.size P0)
    have ru' := Lib.hid (fun W (hW : Below P0.heap.size P0 W) => ru.out.below hW (Nat.le_refl _))
    have rt' := Lib.hid (fun W (hW : Below P0.heap.size P0 W) => rt.out.below hW (Nat.le_refl _))
    have rf' := Lib.hid (fun W (hW : Below P0.heap.size P0 W) => rf.out.below hW (Nat.le_refl _))
    have rm' := Lib.hid (fun W (hW : Below P0.heap.size P0 W) => rm.out.below hW (Nat.le_refl _))
    have hA' := Lib.hid (fun W (hW : Below P0.heap.size P0 W) => hA.out W (Below.then_ hT.out hW))
    have hT' := Lib.hid (fun W (hW : Below P0.heap.size P0 W) => Below.then_ hT.out hW)
    clear ru rt rf rm hT hA
    have b1 := World.block_lt_of_cell? _ _ X0_0
    have b2 := World.block_lt_of_cell? _ _ X1_0
    have b3 := World.block_lt_of_cell? _ _ X2_0
    simp only [] at b1 b2 b3
    go_wp2_with fail
    refine (p1.out _ P0 (ru'.out _ hP.out)).mono ?_; rintro e P1 ⟨lv, rfl, ol, hN9⟩
    replace X0_0 := (hN9.cell (World.block_lt_of_cell? _ _ X0_0)).trans X0_0
    replace X0_1 := (hN9.cell (World.block_lt_of_cell? _ _ X0_1)).trans X0_1
    replace X1_0 := (hN9.cell (World.block_lt_of_cell? _ _ X1_0)).trans X1_0
    replace X1_1 := (hN9.cell (World.block_lt_of_cell? _ _ X1_1)).trans X1_1
    replace X2_0 := (hN9.cell (World.block_lt_of_cell? _ _ X2_0)).trans X2_0
    replace X2_1 := (hN9.cell (World.block_lt_of_cell? _ _ X2_1)).trans X2_1
    replace hP := Lib.hid (Below.then_ hP.out hN9)
    have z_P1 := hN9.size; clear hN9
    change OwnI _ _ _ T at ol
    have rl := Lib.hid (ol.rd (by have := lT.out; omega))
    have fl := Lib.hid (ol.freshen (by have := lT.out; omega))
    clear ol
    go_wp2_with fail
    refine (p2.out _ P1 (ru'.out _ hP.out)).mono ?_; rintro e P2 ⟨rfl, hN10⟩
    replace X0_0 := (hN10.cell (World.block_lt_of_cell? _ _ X0_0)).trans X0_0
    replace X0_1 := (hN10.cell (World.block_lt_of_cell? _ _ X0_1)).trans X0_1
    replace X1_0 := (hN10.cell (World.block_lt_of_cell? _ _ X1_0)).trans X1_0
    replace X1_1 := (hN10.cell (World.block_lt_of_cell? _ _ X1_1)).trans X1_1
    replace X2_0 := (hN10.cell (World.block_lt_of_cell? _ _ X2_0)).trans X2_0
    replace X2_1 := (hN10.cell (World.block_lt_of_cell? _ _ X2_1)).trans X2_1
    replace hP := Lib.hid (Below.then_ hP.out hN10)
    replace rl := Lib.hid (rl.out.below hN10 (Nat.le_refl _))
    replace fl := Lib.hid (fl.out.kept hN10)
    have z_P2 := hN10.size; clear hN10
    go_wp2_with fail
    refine (p3.out _ P2 (ru'.out _ hP.out)).mono ?_; rintro e P3 ⟨sv, rfl, os, hN11⟩
    replace X0_0 := (hN11.cell (World.block_lt_of_cell? _ _ X0_0)).trans X0_0
    replace X0_1 := (hN11.cell (World.block_lt_of_cell? _ _ X0_1)).trans X0_1
    replace X1_0 := (hN11.cell (World.block_lt_of_cell? _ _ X1_0)).trans X1_0
    replace X1_1 := (hN11.cell (World.block_lt_of_cell? _ _ X1_1)).trans X1_1
    replace X2_0 := (hN11.cell (World.block_lt_of_cell? _ _ X2_0)).trans X2_0
    replace X2_1 := (hN11.cell (World.block_lt_of_cell? _ _ X2_1)).trans X2_1
    replace hP := Lib.hid (Below.then_ hP.out hN11)
    replace rl := Lib.hid (rl.out.below hN11 (Nat.le_refl _))
    replace fl := Lib.hid (fl.out.kept hN11)
    have z_P3 := hN11.size; clear hN11
    change OwnR _ _ _ F at os
    have rs := Lib.hid (os.rd (by have := lF.out.2; omega) (by have := lF.out.1; omega))
    have fs := Lib.hid (os.fresh (by have := lF.out.2; omega) (by have := lF.out.1; omega))
    obtain ⟨sA, sn, sc, sB, sm, sd, rfl⟩ := os.shape
    clear os
    obtain ⟨hN12, X3_0, X3_1, X3_z⟩ := box_new P3 (.slice sA sn sc) (.slice sB sm sd) 49
    replace X0_0 := (hN12.cell (World.block_lt_of_cell? _ _ X0_0)).trans X0_0
    replace X0_1 := (hN12.cell (World.block_lt_of_cell? _ _ X0_1)).trans X0_1
    replace X1_0 := (hN12.cell (World.block_lt_of_cell? _ _ X1_0)).trans X1_0
    replace X1_1 := (hN12.cell (World.block_lt_of_cell? _ _ X1_1)).trans X1_1
    replace X2_0 := (hN12.cell (World.block_lt_of_cell? _ _ X2_0)).trans X2_0
    replace X2_1 := (hN12.cell (World.block_lt_of_cell? _ _ X2_1)).trans X2_1
    replace hP := Lib.hid (Below.then_ hP.out hN12)
    replace rl := Lib.hid (rl.out.below hN12 (Nat.le_refl _))
    replace fl := Lib.hid (fl.out.kept hN12)
    replace rs := Lib.hid (rs.out.below hN12 (Nat.le_refl _))
    replace fs := Lib.hid (fs.out.kept hN12)
    go_wp2_with fail
    generalize P3.alloc (.cells #[.slice sA sn sc, .slice sB sm sd] 49) = X3 at *
    clear hN12
    refine (p4.out _ X3 (ru'.out _ hP.out)).mono ?_; rintro e P4 ⟨kv, rfl, ok, hN13⟩
    replace X0_0 := (hN13.cell (World.block_lt_of_cell? _ _ X0_0)).trans X0_0
    replace X0_1 := (hN13.cell (World.block_lt_of_cell? _ _ X0_1)).trans X0_1
    replace X1_0 := (hN13.cell (World.block_lt_of_cell? _ _ X1_0)).trans X1_0
    replace X1_1 := (hN13.cell (World.block_lt_of_cell? _ _ X1_1)).trans X1_1
    replace X2_0 := (hN13.cell (World.block_lt_of_cell? _ _ X2_0)).trans X2_0
    replace X2_1 := (hN13.cell (World.block_lt_of_cell? _ _ X2_1)).trans X2_1
    replace hP := Lib.hid (Below.then_ hP.out hN13)
    replace rl := Lib.hid (rl.out.below hN13 (Nat.le_refl _))
    replace fl := Lib.hid (fl.out.kept hN13)
    replace rs := Lib.hid (rs.out.below hN13 (Nat.le_refl _))
    replace fs := Lib.hid (fs.out.kept hN13)
    replace X3_0 := (hN13.cell (World.block_lt_of_cell? _ _ X3_0)).trans X3_0
    replace X3_1 := (hN13.cell (World.block_lt_of_cell? _ _ X3_1)).trans X3_1
    have z_P4 := hN13.size; clear hN13
    change OwnM _ _ _ M at ok
    replace ok := Lib.hid ok
    clear p1 p2 p3 p4
    go_wp2
    refine D_begin (fun w' => Box2 w' w.heap.size (.slice Aa na ca) (.slice Ab nb cb) ∧ Box2 w' A1.heap.size (.slice uA un uc) (.slice uB um ud) ∧ Box2 w' A4.heap.size (.slice fA fn fc) (.slice fB fm fd) ∧ Box2 w' P3.heap.size (.slice sA sn sc) (.slice sB sm sd)) (fun _ => True) 39 (by kernel_rfl) ?_
    change wpAnyD _ _ _ _ _ _ _ _ _ _ P4.drew
    simp only [List.size_toArray, List.length_cons, List.length_nil, Nat.reduceAdd, Array.replicate_succ, Array.replicate_zero, List.push_toArray, List.append_toArray, List.nil_append, List.cons_append]
    have B0 : Box2 P4.drew w.heap.size (.slice Aa na ca) (.slice Ab nb cb) := ⟨X0_0, X0_1⟩
    have B1 : Box2 P4.drew A1.heap.size (.slice uA un uc) (.slice uB um ud) := ⟨X1_0, X1_1⟩
    have B2 : Box2 P4.drew A4.heap.size (.slice fA fn fc) (.slice fB fm fd) := ⟨X2_0, X2_1⟩
    have B3 : Box2 P4.drew P3.heap.size (.slice sA sn sc) (.slice sB sm sd) := ⟨X3_0, X3_1⟩
    replace hP := Lib.hid hP.out.drew
    have hdd : Below P4.heap.size P4 P4.drew := (Below.refl _ P4).drew
    replace rl := Lib.hid (rl.out.below hdd (Nat.le_refl _))
    replace fl := Lib.hid (fl.out.kept hdd)
    replace fs := Lib.hid (fs.out.kept hdd)
    replace rs := Lib.hid (rs.out.below hdd (Nat.le_refl _))
    replace ok := Lib.hid (ok.out.below hdd)
    have z_P5 := hdd.size
    clear hdd X0_0 X0_1 X1_0 X1_1 X2_0 X2_1 X3_0 X3_1
    generalize P4.drew = P5 at *
    refine D_take (i := 0) (v := ?_) rfl (by kernel_rfl) (by kernel_rfl) (by kernel_rfl) (by kernel_rfl) (fun _ _ _ h => h) (Or.inl ⟨by rfl, ?_⟩) ⟨B0, B1, B2, B3⟩ (fun _ => trivial) ?_
    rotate_left; · intro w1 hw1; obtain ⟨⟨hw1, hw2⟩, ⟨hw3, hw4⟩, -⟩ := hw1; go_simp; try with_reducible rfl
    try simp only [Act.put, List.getElem_toArray, List.getElem_cons_zero, List.getElem_cons_succ, List.setIfInBounds_toArray, List.set_cons_zero, List.set_cons_succ]
    refine D_take (i := 2) (v := ?_) rfl (by kernel_rfl) (by kernel_rfl) (by kernel_rfl) (by kernel_rfl) (fun _ _ _ h => h) (Or.inl ⟨by rfl, ?_⟩) ⟨B0, B1, B2, B3⟩ (fun _ => trivial) ?_
    rotate_left; · intro w1 hw1; obtain ⟨⟨hw1, hw2⟩, ⟨hw3, hw4⟩, -⟩ := hw1; go_simp; try with_reducible rfl
    try simp only [Act.put, List.getElem_toArray, List.getElem_cons_zero, List.getElem_cons_succ, List.setIfInBounds_toArray, List.set_cons_zero, List.set_cons_succ]
    refine D_one (i := 1) (by kernel_rfl) rfl ?_
    intro K hK
    rw [if_pos (by rfl)]
    go_wp2_with fail
    refine (p5.out _ P5 (ru'.out _ hP.out)).mono ?_; rintro e P6 ⟨rfl, hN_P6⟩
    replace hP := Lib.hid (Below.then_ hP.out hN_P6)
    replace B0 := B0.below hN_P6
    replace B1 := B1.below hN_P6
    replace B2 := B2.below hN_P6
    replace B3 := B3.below hN_P6
    replace rl := Lib.hid (rl.out.below hN_P6 (Nat.le_refl _))
    replace fl := Lib.hid (fl.out.kept hN_P6)
    replace rs := Lib.hid (rs.out.below hN_P6 (Nat.le_refl _))
    replace fs := Lib.hid (fs.out.kept hN_P6)
    replace ok := Lib.hid (ok.out.below hN_P6)
    have z_P6 := hN_P6.size; clear hN_P6
    refine hK _ _ ⟨B0, B1, B2, B3⟩ (fun _ _ => trivial) ?_
    clear hK K
    try simp only [Act.put, List.getElem_toArray, List.getElem_cons_zero, List.getElem_cons_succ, List.setIfInBounds_toArray, List.set_cons_zero, List.set_cons_succ]
    refine D_one (i := 3) (by kernel_rfl) rfl ?_
    intro K hK
    rw [if_pos (by rfl)]
    go_wp2_with fail
    refine (t5.out P6 (hT'.out _ hP.out)).mono ?_; rintro e P7 ⟨rfl, hN_P7⟩
    replace hP := Lib.hid (Below.then_ hP.out hN_P7)
    replace B0 := B0.below hN_P7
    replace B1 := B1.below hN_P7
    replace B2 := B2.below hN_P7
    replace B3 := B3.below hN_P7
    replace rl := Lib.hid (rl.out.below hN_P7 (Nat.le_refl _))
    replace fl := Lib.hid (fl.out.kept hN_P7)
    replace rs := Lib.hid (rs.out.below hN_P7 (Nat.le_refl _))
    replace fs := Lib.hid (fs.out.kept hN_P7)
    replace ok := Lib.hid (ok.out.below hN_P7)
    have z_P7 := hN_P7.size; clear hN_P7
    refine hK _ _ ⟨B0, B1, B2, B3⟩ (fun _ _ => trivial) ?_
    clear hK K
    try simp only [Act.put, List.getElem_toArray, List.getElem_cons_zero, List.getElem_cons_succ, List.setIfInBounds_toArray, List.set_cons_zero, List.set_cons_succ]
    refine D_take (i := 4) (v := ?_) rfl (by kernel_rfl) (by kernel_rfl) (by kernel_rfl) (by kernel_rfl) (fun _ _ _ h => h) (Or.inl ⟨by rfl, ?_⟩) ⟨B0, B1, B2, B3⟩ (fun _ => trivial) ?_
    rotate_left; · intro w1 hw1; go_simp; try with_reducible rfl
    try simp only [Act.put, List.getElem_toArray, List.getElem_cons_zero, List.getElem_cons_succ, List.setIfInBounds_toArray, List.set_cons_zero, List.set_cons_succ]
    refine D_take (i := 5) (v := ?_) rfl (by kernel_rfl) (by kernel_rfl) (by kernel_rfl) (by kernel_rfl) (fun _ _ _ h => h) (Or.inl ⟨by rfl, ?_⟩) ⟨B0, B1, B2, B3⟩ (fun _ => trivial) ?_
    rotate_left; · intro w1 hw1; go_simp; try with_reducible rfl
    try simp only [Act.put, List.getElem_toArray, List.getElem_cons_zero, List.getElem_cons_succ, List.setIfInBounds_toArray, List.set_cons_zero, List.set_cons_succ]
    refine D_take (i := 6) (v := ?_) rfl (by kernel_rfl) (by kernel_rfl) (by kernel_rfl) (by kernel_rfl) (fun _ _ _ h => h) (Or.inl ⟨by rfl, ?_⟩) ⟨B0, B1, B2, B3⟩ (fun _ => trivial) ?_
    rotate_left; · intro w1 hw1; go_simp; try with_reducible rfl
    try simp only [Act.put, List.getElem_toArray, List.getElem_cons_zero, List.getElem_cons_succ, List.setIfInBounds_toArray, List.set_cons_zero, List.set_cons_succ]
    refine D_take (i := 7) (v := ?_) rfl (by kernel_rfl) (by kernel_rfl) (by kernel_rfl) (by kernel_rfl) (fun _ _ _ h => h) (Or.inl ⟨by rfl, ?_⟩) ⟨B0, B1, B2, B3⟩ (fun _ => trivial) ?_
    rotate_left; · intro w1 hw1; go_simp; try with_reducible rfl
    try simp only [Act.put, List.getElem_toArray, List.getElem_cons_zero, List.getElem_cons_succ, List.setIfInBounds_toArray, List.set_cons_zero, List.set_cons_succ]
    refine D_one (i := 8) (by kernel_rfl) rfl ?_
    intro K hK
    rw [if_pos (by rfl)]
    go_wp2_with fail
    refine (qT.out _ _ P7 rl.out (rt'.out _ hP.out)).mono ?_; rintro e P8 ⟨rfl, hN_P8⟩
    replace hP := Lib.hid (Below.then_ hP.out hN_P8)
    replace B0 := B0.below hN_P8
    replace B1 := B1.below hN_P8
    replace B2 := B2.below hN_P8
    replace B3 := B3.below hN_P8
    replace rl := Lib.hid (rl.out.below hN_P8 (Nat.le_refl _))
    replace fl := Lib.hid (fl.out.kept hN_P8)
    replace rs := Lib.hid (rs.out.below hN_P8 (Nat.le_refl _))
    replace fs := Lib.hid (fs.out.kept hN_P8)
    replace ok := Lib.hid (ok.out.below hN_P8)
    have z_P8 := hN_P8.size; clear hN_P8
    refine hK _ _ ⟨B0, B1, B2, B3⟩ (fun _ _ => trivial) ?_
    clear hK K
    try simp only [Act.put, List.getElem_toArray, List.getElem_cons_zero, List.getElem_cons_succ, List.setIfInBounds_toArray, List.set_cons_zero, List.set_cons_succ]
    refine D_take (i := 9) (v := ?_) rfl (by kernel_rfl) (by kernel_rfl) (by kernel_rfl) (by kernel_rfl) (fun _ _ _ h => h) (Or.inl ⟨by rfl, ?_⟩) ⟨B0, B1, B2, B3⟩ (fun _ => trivial) ?_
    rotate_left; · intro w1 hw1; go_simp; try with_reducible rfl
    try simp only [Act.put, List.getElem_toArray, List.getElem_cons_zero, List.getElem_cons_succ, List.setIfInBounds_toArray, List.set_cons_zero, List.set_cons_succ]
    refine D_take (i := 10) (v := ?_) rfl (by kernel_rfl) (by kernel_rfl) (by kernel_rfl) (by kernel_rfl) (fun _ _ _ h => h) (Or.inl ⟨by rfl, ?_⟩) ⟨B0, B1, B2, B3⟩ (fun _ => trivial) ?_
    rotate_left; · intro w1 hw1; go_simp; try with_reducible rfl
    try simp only [Act.put, List.getElem_toArray, List.getElem_cons_zero, List.getElem_cons_succ, List.setIfInBounds_toArray, List.set_cons_zero, List.set_cons_succ]
    refine D_take (i := 11) (v := ?_) rfl (by kernel_rfl) (by kernel_rfl) (by kernel_rfl) (by kernel_rfl) (fun _ _ _ h => h) (Or.inl ⟨by rfl, ?_⟩) ⟨B0, B1, B2, B3⟩ (fun _ => trivial) ?_
    rotate_left; · intro w1 hw1; go_simp; try with_reducible rfl
    try simp only [Act.put, List.getElem_toArray, List.getElem_cons_zero, List.getElem_cons_succ, List.setIfInBounds_toArray, List.set_cons_zero, List.set_cons_succ]
    refine D_take (i := 12) (v := ?_) rfl (by kernel_rfl) (by kernel_rfl) (by kernel_rfl) (by kernel_rfl) (fun _ _ _ h => h) (Or.inl ⟨by rfl, ?_⟩) ⟨B0, B1, B2, B3⟩ (fun _ => trivial) ?_
    rotate_left; · intro w1 hw1; go_simp; try with_reducible rfl
    try simp only [Act.put, List.getElem_toArray, List.getElem_cons_zero, List.getElem_cons_succ, List.setIfInBounds_toArray, List.set_cons_zero, List.set_cons_succ]
    refine D_take (i := 13) (v := ?_) rfl (by kernel_rfl) (by kernel_rfl) (by kernel_rfl) (by kernel_rfl) (fun _ _ _ h => h) (Or.inl ⟨by rfl, ?_⟩) ⟨B0, B1, B2, B3⟩ (fun _ => trivial) ?_
    rotate_left; · intro w1 hw1; go_simp; try with_reducible rfl
    try simp only [Act.put, List.getElem_toArray, List.getElem_cons_zero, List.getElem_cons_succ, List.setIfInBounds_toArray, List.set_cons_zero, List.set_cons_succ]
    refine D_take (i := 14) (v := ?_) rfl (by kernel_rfl) (by kernel_rfl) (by kernel_rfl) (by kernel_rfl) (fun _ _ _ h => h) (Or.inl ⟨by rfl, ?_⟩) ⟨B0, B1, B2, B3⟩ (fun _ => trivial) ?_
    rotate_left; · intro w1 hw1; go_simp; try with_reducible rfl
    try simp only [Act.put, List.getElem_toArray, List.getElem_cons_zero, List.getElem_cons_succ, List.setIfInBounds_toArray, List.set_cons_zero, List.set_cons_succ]
    refine D_take (i := 15) (v := ?_) rfl (by kernel_rfl) (by kernel_rfl) (by kernel_rfl) (by kernel_rfl) (fun _ _ _ h => h) (Or.inl ⟨by rfl, ?_⟩) ⟨B0, B1, B2, B3⟩ (fun _ => trivial) ?_
    rotate_left; · intro w1 hw1; go_simp; try with_reducible rfl
    try simp only [Act.put, List.getElem_toArray, List.getElem_cons_zero, List.getElem_cons_succ, List.setIfInBounds_toArray, List.set_cons_zero, List.set_cons_succ]
    refine D_take (i := 16) (v := ?_) rfl (by kernel_rfl) (by kernel_rfl) (by kernel_rfl) (by kernel_rfl) (fun _ _ _ h => h) (Or.inl ⟨by rfl, ?_⟩) ⟨B0, B1, B2, B3⟩ (fun _ => trivial) ?_
    rotate_left; · intro w1 hw1; go_simp; try with_reducible rfl
    try simp only [Act.put, List.getElem_toArray, List.getElem_cons_zero, List.getElem_cons_succ, List.setIfInBounds_toArray, List.set_cons_zero, List.set_cons_succ]
    refine D_take (i := 17) (v := ?_) rfl (by kernel_rfl) (by kernel_rfl) (by kernel_rfl) (by kernel_rfl) (fun _ _ _ h => h) (Or.inl ⟨by rfl, ?_⟩) ⟨B0, B1, B2, B3⟩ (fun _ => trivial) ?_
    rotate_left; · intro w1 hw1; go_simp; try with_reducible rfl
    try simp only [Act.put, List.getElem_toArray, List.getElem_cons_zero, List.getElem_cons_succ, List.setIfInBounds_toArray, List.set_cons_zero, List.set_cons_succ]
    refine D_take (i := 18) (v := ?_) rfl (by kernel_rfl) (by kernel_rfl) (by kernel_rfl) (by kernel_rfl) (fun _ _ _ h => h) (Or.inl ⟨by rfl, ?_⟩) ⟨B0, B1, B2, B3⟩ (fun _ => trivial) ?_
    rotate_left; · intro w1 hw1; go_simp; try with_reducible rfl
    try simp only [Act.put, List.getElem_toArray, List.getElem_cons_zero, List.getElem_cons_succ, List.setIfInBounds_toArray, List.set_cons_zero, List.set_cons_succ]
    refine D_take (i := 19) (v := ?_) rfl (by kernel_rfl) (by kernel_rfl) (by kernel_rfl) (by kernel_rfl) (fun _ _ _ h => h) (Or.inl ⟨by rfl, ?_⟩) ⟨B0, B1, B2, B3⟩ (fun _ => trivial) ?_
    rotate_left; · intro w1 hw1; go_simp; try with_reducible rfl
    try simp only [Act.put, List.getElem_toArray, List.getElem_cons_zero, List.getElem_cons_succ, List.setIfInBounds_toArray, List.set_cons_zero, List.set_cons_succ]
    refine D_take (i := 20) (v := ?_) rfl (by kernel_rfl) (by kernel_rfl) (by kernel_rfl) (by kernel_rfl) (fun _ _ _ h => h) (Or.inl ⟨by rfl, ?_⟩) ⟨B0, B1, B2, B3⟩ (fun _ => trivial) ?_
    rotate_left; · intro w1 hw1; go_simp; try with_reducible rfl
    try simp only [Act.put, List.getElem_toArray, List.getElem_cons_zero, List.getElem_cons_succ, List.setIfInBounds_toArray, List.set_cons_zero, List.set_cons_succ]
    refine D_take (i := 21) (v := ?_) rfl (by kernel_rfl) (by kernel_rfl) (by kernel_rfl) (by kernel_rfl) (fun _ _ _ h => h) (Or.inl ⟨by rfl, ?_⟩) ⟨B0, B1, B2, B3⟩ (fun _ => trivial) ?_
    rotate_left; · intro w1 hw1; go_simp; try with_reducible rfl
    try simp only [Act.put, List.getElem_toArray, List.getElem_cons_zero, List.getElem_cons_succ, List.setIfInBounds_toArray, List.set_cons_zero, List.set_cons_succ]
    refine D_take (i := 22) (v := ?_) rfl (by kernel_rfl) (by kernel_rfl) (by kernel_rfl) (by kernel_rfl) (fun _ _ _ h => h) (Or.inl ⟨by rfl, ?_⟩) ⟨B0, B1, B2, B3⟩ (fun _ => trivial) ?_
    rotate_left; · intro w1 hw1; go_simp; try with_reducible rfl
    try simp only [Act.put, List.getElem_toArray, List.getElem_cons_zero, List.getElem_cons_succ, List.setIfInBounds_toArray, List.set_cons_zero, List.set_cons_succ]
    refine D_take (i := 23) (v := ?_) rfl (by kernel_rfl) (by kernel_rfl) (by kernel_rfl) (by kernel_rfl) (fun _ _ _ h => h) (Or.inl ⟨by rfl, ?_⟩) ⟨B0, B1, B2, B3⟩ (fun _ => trivial) ?_
    rotate_left; · intro w1 hw1; go_simp; try with_reducible rfl
    try simp only [Act.put, List.getElem_toArray, List.getElem_cons_zero, List.getElem_cons_succ, List.setIfInBounds_toArray, List.set_cons_zero, List.set_cons_succ]
    refine D_take (i := 24) (v := ?_) rfl (by kernel_rfl) (by kernel_rfl) (by kernel_rfl) (by kernel_rfl) (fun _ _ _ h => h) (Or.inl ⟨by rfl, ?_⟩) ⟨B0, B1, B2, B3⟩ (fun _ => trivial) ?_
    rotate_left; · intro w1 hw1; go_simp; try with_reducible rfl
    try simp only [Act.put, List.getElem_toArray, List.getElem_cons_zero, List.getElem_cons_succ, List.setIfInBounds_toArray, List.set_cons_zero, List.set_cons_succ]
    refine D_take (i := 25) (v := ?_) rfl (by kernel_rfl) (by kernel_rfl) (by kernel_rfl) (by kernel_rfl) (fun _ _ _ h => h) (Or.inl ⟨by rfl, ?_⟩) ⟨B0, B1, B2, B3⟩ (fun _ => trivial) ?_
    rotate_left; · intro w1 hw1; go_simp; try with_reducible rfl
    try simp only [Act.put, List.getElem_toArray, List.getElem_cons_zero, List.getElem_cons_succ, List.setIfInBounds_toArray, List.set_cons_zero, List.set_cons_succ]
    refine D_take (i := 26) (v := ?_) rfl (by kernel_rfl) (by kernel_rfl) (by kernel_rfl) (by kernel_rfl) (fun _ _ _ h => h) (Or.inl ⟨by rfl, ?_⟩) ⟨B0, B1, B2, B3⟩ (fun _ => trivial) ?_
    rotate_left; · intro w1 hw1; obtain ⟨-, -, ⟨hw1, hw2⟩, ⟨hw3, hw4⟩⟩ := hw1; go_simp; try with_reducible rfl
    try simp only [Act.put, List.getElem_toArray, List.getElem_cons_zero, List.getElem_cons_succ, List.setIfInBounds_toArray, List.set_cons_zero, List.set_cons_succ]
    refine D_take (i := 27) (v := ?_) rfl (by kernel_rfl) (by kernel_rfl) (by kernel_rfl) (by kernel_rfl) (fun _ _ _ h => h) (Or.inl ⟨by rfl, ?_⟩) ⟨B0, B1, B2, B3⟩ (fun _ => trivial) ?_
    rotate_left; · intro w1 hw1; obtain ⟨-, -, ⟨hw1, hw2⟩, ⟨hw3, hw4⟩⟩ := hw1; go_simp; try with_reducible rfl
    try simp only [Act.put, List.getElem_toArray, List.getElem_cons_zero, List.getElem_cons_succ, List.setIfInBounds_toArray, List.set_cons_zero, List.set_cons_succ]
    refine D_take (i := 28) (v := ?_) rfl (by kernel_rfl) (by kernel_rfl) (by kernel_rfl) (by kernel_rfl) (fun _ _ _ h => h) (Or.inl ⟨by rfl, ?_⟩) ⟨B0, B1, B2, B3⟩ (fun _ => trivial) ?_
    rotate_left; · intro w1 hw1; go_simp; try with_reducible rfl
    try simp only [Act.put, List.getElem_toArray, List.getElem_cons_zero, List.getElem_cons_succ, List.setIfInBounds_toArray, List.set_cons_zero, List.set_cons_succ]
    refine D_take (i := 29) (v := ?_) rfl (by kernel_rfl) (by kernel_rfl) (by kernel_rfl) (by kernel_rfl) (fun _ _ _ h => h) (Or.inl ⟨by rfl, ?_⟩) ⟨B0, B1, B2, B3⟩ (fun _ => trivial) ?_
    rotate_left; · intro w1 hw1; go_simp; try with_reducible rfl
    try simp only [Act.put, List.getElem_toArray, List.getElem_cons_zero, List.getElem_cons_succ, List.setIfInBounds_toArray, List.set_cons_zero, List.set_cons_succ]
    have hr1 := Lib.hid (ruled_any F F (.agg #[.slice sA sn sc, .slice sB sm sd]) (.agg #[.slice fA fn fc, .slice fB fm fd]) Fe Fe P2.heap.size P3.heap.size P8 rs.out (rf'.out _ hP.out) fs.out (by omega))
    rw [decide_eq_true rfl, sameR_self] at hr1
    simp only [Bool.and_self] at hr1
    clear rl rs fs
    refine D_one (i := 30) (by kernel_rfl) rfl ?_
    intro K hK
    rw [if_pos (by rfl)]
    go_wp2_with fail
    refine (hr1.out).mono ?_; rintro e P9 ⟨rfl, hN_P9⟩
    replace hP := Lib.hid (hP.out.trans ((hN_P9.below (by omega)).mono (by omega)))
    replace B0 := B0.btw hN_P9 (by omega)
    replace B1 := B1.btw hN_P9 (by omega)
    replace B2 := B2.btw hN_P9 (by omega)
    replace B3 := B3.btw hN_P9 (by omega)
    replace fl := Lib.hid (fl.out.btw hN_P9 (by omega))
    replace ok := Lib.hid (hN_P9.ownM ok.out (by omega))
    have z_P9 := hN_P9.size; clear hN_P9
    refine hK _ _ ⟨B0, B1, B2, B3⟩ (fun _ _ => trivial) ?_
    clear hK K
    try simp only [Act.put, List.getElem_toArray, List.getElem_cons_zero, List.getElem_cons_succ, List.setIfInBounds_toArray, List.set_cons_zero, List.set_cons_succ]
    refine D_take (i := 31) (v := ?_) rfl (by kernel_rfl) (by kernel_rfl) (by kernel_rfl) (by kernel_rfl) (fun _ _ _ h => h) (Or.inl ⟨by rfl, ?_⟩) ⟨B0, B1, B2, B3⟩ (fun _ => trivial) ?_
    rotate_left; · intro w1 hw1; go_simp; try with_reducible rfl
    try simp only [Act.put, List.getElem_toArray, List.getElem_cons_zero, List.getElem_cons_succ, List.setIfInBounds_toArray, List.set_cons_zero, List.set_cons_succ]
    refine D_take (i := 32) (v := ?_) rfl (by kernel_rfl) (by kernel_rfl) (by kernel_rfl) (by kernel_rfl) (fun _ _ _ h => h) (Or.inl ⟨by rfl, ?_⟩) ⟨B0, B1, B2, B3⟩ (fun _ => trivial) ?_
    rotate_left; · intro w1 hw1; go_simp; try with_reducible rfl
    try simp only [Act.put, List.getElem_toArray, List.getElem_cons_zero, List.getElem_cons_succ, List.setIfInBounds_toArray, List.set_cons_zero, List.set_cons_succ]
    refine D_take (i := 33) (v := ?_) rfl (by kernel_rfl) (by kernel_rfl) (by kernel_rfl) (by kernel_rfl) (fun _ _ _ h => h) (Or.inl ⟨by rfl, ?_⟩) ⟨B0, B1, B2, B3⟩ (fun _ => trivial) ?_
    rotate_left; · intro w1 hw1; go_simp; try with_reducible rfl
    try simp only [Act.put, List.getElem_toArray, List.getElem_cons_zero, List.getElem_cons_succ, List.setIfInBounds_toArray, List.set_cons_zero, List.set_cons_succ]
    refine D_take (i := 34) (v := ?_) rfl (by kernel_rfl) (by kernel_rfl) (by kernel_rfl) (by kernel_rfl) (fun _ _ _ h => h) (Or.inl ⟨by rfl, ?_⟩) ⟨B0, B1, B2, B3⟩ (fun _ => trivial) ?_
    rotate_left; · intro w1 hw1; go_simp; try with_reducible rfl
    try simp only [Act.put, List.getElem_toArray, List.getElem_cons_zero, List.getElem_cons_succ, List.setIfInBounds_toArray, List.set_cons_zero, List.set_cons_succ]
    refine D_take (i := 35) (v := ?_) rfl (by kernel_rfl) (by kernel_rfl) (by kernel_rfl) (by kernel_rfl) (fun _ _ _ h => h) (Or.inl ⟨by rfl, ?_⟩) ⟨B0, B1, B2, B3⟩ (fun _ => trivial) ?_
    rotate_left; · intro w1 hw1; go_simp; try with_reducible rfl
    try simp only [Act.put, List.getElem_toArray, List.getElem_cons_zero, List.getElem_cons_succ, List.setIfInBounds_toArray, List.set_cons_zero, List.set_cons_succ]
    refine D_take (i := 36) (v := ?_) rfl (by kernel_rfl) (by kernel_rfl) (by kernel_rfl) (by kernel_rfl) (fun _ _ _ h => h) (Or.inl ⟨by rfl, ?_⟩) ⟨B0, B1, B2, B3⟩ (fun _ => trivial) ?_
    rotate_left; · intro w1 hw1; go_simp; try with_reducible rfl
    try simp only [Act.put, List.getElem_toArray, List.getElem_cons_zero, List.getElem_cons_succ, List.setIfInBounds_toArray, List.set_cons_zero, List.set_cons_succ]
    have ht1 := Lib.hid (told_any M M kv mv Me Me X3.heap.size P9.heap.size _ P9 (sM.out.rd ok.out) (rm'.out _ hP.out) (sM.out.fresh ok.out) (fun j hj => sM.out.row hj))
    rw [show (decide (Me = Me) && decide (M = M)) = true by simp] at ht1
    clear ok
    refine D_one (i := 37) (by kernel_rfl) rfl ?_
    intro K hK
    rw [if_pos (by rfl)]
    go_wp2_with fail
    refine (ht1.out).mono ?_; rintro e P10 ⟨rfl, hN_P10⟩
    replace hP := Lib.hid (hP.out.trans ((hN_P10.below (by omega)).mono (by omega)))
    replace B0 := B0.btw hN_P10 (by omega)
    replace B1 := B1.btw hN_P10 (by omega)
    replace B2 := B2.btw hN_P10 (by omega)
    replace B3 := B3.btw hN_P10 (by omega)
    replace fl := Lib.hid (fl.out.btw hN_P10 (by omega))
    have z_P10 := hN_P10.size; clear hN_P10
    refine hK _ _ ⟨B0, B1, B2, B3⟩ (fun _ _ => trivial) ?_
    clear hK K
    try simp only [Act.put, List.getElem_toArray, List.getElem_cons_zero, List.getElem_cons_succ, List.setIfInBounds_toArray, List.set_cons_zero, List.set_cons_succ]
    refine D_take (i := 38) (v := ?_) rfl (by kernel_rfl) (by kernel_rfl) (by kernel_rfl) (by kernel_rfl) (fun _ _ _ h => h) (Or.inl ⟨by rfl, ?_⟩) ⟨B0, B1, B2, B3⟩ (fun _ => trivial) ?_
    rotate_left; · intro w1 hw1; go_simp; try with_reducible rfl
    try simp only [Act.put, List.getElem_toArray, List.getElem_cons_zero, List.getElem_cons_succ, List.setIfInBounds_toArray, List.set_cons_zero, List.set_cons_succ]
    refine D_one (i := 39) (by kernel_rfl) rfl ?_
    intro K hK
    rw [if_pos (by rfl)]
    go_simp
    refine hK _ _ ⟨B0, B1, B2, B3⟩ (fun _ _ => trivial) ?_
    clear hK K
    try simp only [Act.put, List.getElem_toArray, List.getElem_cons_zero, List.getElem_cons_succ, List.setIfInBounds_toArray, List.set_cons_zero, List.set_cons_succ]
    refine D_done (by kernel_rfl) ?_ _
    obtain ⟨P11, hrun, hC, -, -⟩ := clear_row fl.out
    clear fl
    replace hP := Lib.hid (hP.out.trans ((hC.below (by omega)).mono (by omega)))
    replace B0 := B0.btw hC (by omega)
    replace B1 := B1.btw hC (by omega)
    replace B2 := B2.btw hC (by omega)
    replace B3 := B3.btw hC (by omega)
    have z_P11 := hC.size; clear hC
    obtain ⟨c0, c1⟩ := id B0
    obtain ⟨c2, c3⟩ := id B1
    clear B0 B1 B2 B3
    go_wp2_with fail
    refine (sR.out _ P11 (ru'.out _ hP.out) (hT'.out _ hP.out)).mono ?_; rintro e V1 ⟨rfl, hN1⟩
    replace hP := Lib.hid (Below.then_ hP.out hN1)
    clear hN1
    go_wp2_with fail
    refine (hA'.out V1 hP.out).mono ?_; rintro e V2 ⟨rfl, hN2⟩
    replace hP := Lib.hid (Below.then_ hP.out hN2)
    clear hN2
    go_wp2
    go_ret
    exact ⟨rfl, hT'.out _ hP.out⟩
end Go.Proofs.YtfljkcmijnhgkaaDoor

namespace Go.Proofs.YtfljkcmijnhgkaaDoor
open Go Go.ChangeShapes Go.WideShapes Go.ChangeAt Go.WideMaps Go.WideElems Go.RowKit Go.Shelf

set_option maxRecDepth 100000 in
theorem fieldTerms_lifted (os : Os) (started : os.Started) (H : Type) (enc : TypeId × Value → H) :
    ReturnsInHanded {} Tryd.checked os 13 .any (fun w args => (Rows.fieldTermsSpec.pre enc Tryd.prog Tryd.f13 [] false w args ∧ laidMetH Tryd.prog [("roundelay/field.joins", Rows.laid_roundelay_field_joins)] w) ∧ sizedMet enc Tryd.prog Tryd.f13 (OpenSpec.ofChange Rows.fieldTermsSpec) false w args)
      (Rows.fieldTermsSpec.post enc Tryd.prog Tryd.f13 false true false false) := by
  have hpar : Tryd.f13.params = #[49, 3, 3] := by kernel_rfl
  refine returnsInHanded_of_change_and (C := Tryd.checked) (X := fun w _ => laidMetH Tryd.prog [("roundelay/field.joins", Rows.laid_roundelay_field_joins)] w) (fun _ _ _ hh h => h.of_heap hh) own started (by kernel_rfl) Tryd.func13
    (ChangeSpec.witness_shaped (enc := enc) (C := Tryd.checked) (os := os) (X := fun w _ => laidMetH Tryd.prog [("roundelay/field.joins", Rows.laid_roundelay_field_joins)] w) false (World.doorLaid Tryd.prog 32 os) #[.agg #[.slice none 0 0, .slice none 0 0], .int .i64 0, .int .i64 0] 8 rfl (World.shaped_of_RefB (by kernel_rfl) (by kernel_rfl)) (by kernel_rfl) (by kernel_rfl) (by kernel_rfl) (door_met os _)) ?_
  intro W base args ds gs before hval0 hW _ hwt0 hL _
  have hval : ∀ (j : Nat) t v, Tryd.f13.params[j]? = some t → args[j]? = some v → Value.okWide Tryd.prog W .any base t v := hval0
  have hwt : (DataW.weightsEach Tryd.prog (Tryd.f13.params.toList ++ Rows.fieldTermsSpec.plain.varTypes Tryd.prog) (ds ++ gs)).all (· ≤ reachBytes) = true := hwt0
  have hW' := hW
  have hlt := fun x hx => hW.lt x hx
  obtain ⟨p, q, hA0, hV, rfl, hfz, hnd⟩ := hW
  have hA : DataW.TrodAll enc Tryd.prog W 0 (fun _ => true) true Tryd.f13.params.toList args.toList ds p := hA0
  rw [hpar] at hA hval hwt
  obtain ⟨v0, v1, v2, d0, d1, d2, p0, p1, p2, rfl, rfl, rfl, h0, h1, h2⟩ := trodAll_three hA
  obtain ⟨rfl, rfl⟩ := trodVars_none hV
  obtain ⟨x0, r0⟩ := open_rule (hval 0 49 v0 rfl rfl) h0 (fun n hn => by simpa using List.all_eq_true.1 hwt n (DataW.weights_mem_each (j := 0) rfl rfl n hn))
  obtain ⟨n1, rfl, rfl, rfl, wn1⟩ := open_int Tryd.underlying3 (hval 1 3 v1 rfl rfl) h1
  have hn1 : -9223372036854775808 ≤ n1 ∧ n1 ≤ 9223372036854775807 := by simpa [Lit.wf, IntKind.has, IntKind.min, IntKind.max, IntKind.signed, IntKind.bits] using wn1
  obtain ⟨n2, rfl, rfl, rfl, wn2⟩ := open_int Tryd.underlying3 (hval 2 3 v2 rfl rfl) h2
  have hn2 : -9223372036854775808 ≤ n2 ∧ n2 ≤ 9223372036854775807 := by simpa [Lit.wf, IntKind.has, IntKind.min, IntKind.max, IntKind.signed, IntKind.bits] using wn2
  have hJ := joins_of_laid hL
  clear hA0 hval0 hwt0
  simp only [List.append_nil] at hW' hlt
  refine (FieldTerms_any x0 n1 n2 v0 W r0 hn1.1 hn1.2 hn2.1 hn2.2 hJ).mono fun e W' ⟨he, hb⟩ => ?_
  subst he
  exact ⟨_, rfl, post_of_below (pv := []) hW' (fun _ _ _ => trodAll_mk1 (shut_bool Tryd.underlying4 _)) (fun sp hsp => by rw [hpar]; exact trodAll_mk3 (stays readR sizeP.1 h0 hb (fun x hx => hlt x (by simp [hx])) (fun x hx => hsp x (by simp [hx]))) (shut_int Tryd.underlying3 wn1) (shut_int Tryd.underlying3 wn2)) (fun _ _ => rfl) (by simp) hb (ok_one (by kernel_rfl) rfl (okWide_bool_mk Tryd.underlying4 _))⟩
theorem fieldTerms_holds : Rows.FieldTermsSaid :=
  OpenClaim.holds_of_wide 13 Tryd.f13 rfl rfl rfl rfl rfl rfl rfl ⟨rfl, rfl, rfl, rfl, rfl⟩ rfl rfl rfl rfl rfl (by kernel_rfl) Tryd.func13 (by kernel_rfl)
    (of_decide_eq_true (by kernel_rfl)) (by unfold Func.isWrapper; first | (rw [if_pos (by decide +kernel)]; kernel_rfl) | (rw [if_neg (by decide +kernel)]; exact ⟨rfl, rfl⟩))
    (fun os started H enc _ => fieldTerms_lifted os started H enc)
theorem fieldTerms_card : Rows.FieldTermsCardSaid :=
  Claim7.holds_tied_plain_at .later [] [.funcs] true (true, "c9953d1c884ea4c2f077ddb0d8b19b699c88aa184a56d8435a38da9d9625875e") false
    fieldTerms_holds (fun _ h => by cases h) (by kernel_rfl) (fun _ h => by cases h) fieldTerms_row_tie rfl ⟨rfl, rfl⟩ (by kernel_rfl) rfl
    (fun f fn hf hfn => by
      obtain rfl : f = 13 := Option.some.inj ((show Tryd.prog.funcNamed "roundelay/roundelaylaw16.FieldTerms" = some 13 by kernel_rfl).symm.trans hf) |>.symm
      obtain rfl : fn = Tryd.f13 := (Option.some.inj (Tryd.func13.symm.trans hfn)).symm
      exact ⟨by kernel_rfl, fun j t ht => by
        rw [show Tryd.f13.params = #[49, 3, 3] from by kernel_rfl] at ht
        have hm : t ∈ ([49, 3, 3] : List Nat) := by simpa using Array.mem_of_getElem? ht
        have hall : (([49, 3, 3] : List Nat).all fun u => !Tryd.prog.wantsStandIn u) = true := by kernel_rfl
        exact (show Tryd.prog.wantsStandIn t = false by simpa using List.all_eq_true.1 hall t hm)⟩)
    (by kernel_rfl)
#print axioms fieldTerms_card
end Go.Proofs.YtfljkcmijnhgkaaDoor
