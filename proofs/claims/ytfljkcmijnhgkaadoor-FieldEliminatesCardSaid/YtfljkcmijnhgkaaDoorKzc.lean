/- FieldProducts: its contract. FieldEliminates: its contract. THE LAW FieldEliminates OF LAYER 16 ANSWERS true AT EVERY INPUT, and its arguments read behind the call as before: its tied card. Condition: the table joins is as the program's text lays it, and no argument weighs more than the reach. -/
import Derived.Test.YtfljkcmijnhgkaaDoorKr
import Derived.Test.YtfljkcmijnhgkaaDoorKn
import Derived.Test.YtfljkcmijnhgkaaDoorKzb
import Derived.Test.YtfljkcmijnhgkaaDoorKi
import Derived.Test.YtfljkcmijnhgkaaDoorKv
import Derived.Test.YtfljkcmijnhgkaaDoorKs
import Derived.Test.YtfljkcmijnhgkaaDoorCards
namespace Go.Proofs.YtfljkcmijnhgkaaDoor
open Go.RowKit Go.Shelf
set_option linter.unusedSimpArgs false

/-- A matrix of which no row is empty, and that is not too great. -/
def Small (rs : List (List Int)) : Prop := rs.length ≤ 1000 ∧ ∀ r ∈ rs, 0 < r.length ∧ r.length ≤ 1000
theorem Small_nil : Small [] := ⟨by decide, fun r hr => by cases hr⟩
theorem Small_ok {rs : List (List Int)} {n m : Nat} (h : okM rs n m) (hn : n ≤ 1000) (h0 : 0 < m) (hm : m ≤ 1000) : Small rs := ⟨by rw [h.1]; exact hn, fun r hr => by rw [(h.2 r hr).1]; exact ⟨h0, hm⟩⟩
theorem Small.row {rs : List (List Int)} (h : Small rs) {k : Nat} (hk : k < rs.length) : 0 < (rs.getD k []).length := by
  rw [List.getD_eq_getElem?_getD, List.getElem?_eq_getElem hk]
  exact (h.2 _ (List.getElem_mem hk)).1
theorem Small.rd {rs : List (List Int)} (h : Small rs) {w : World} {base : Nat} {v : Value} (ho : OwnM w base v rs) : RdM w v rs := ho.rd (by have := h.1; omega) (fun r hr => by have := (h.2 r hr).2; omega)
theorem Small.fresh {rs : List (List Int)} (h : Small rs) {w : World} {base : Nat} {v : Value} (ho : OwnM w base v rs) : FreshV base w.heap.size w v rs.length fun k => (rs.getD k []).length := ho.fresh (by have := h.1; omega) (fun r hr => by have := (h.2 r hr).2; omega)
theorem mulR_small (a b : List (List Int)) : Small (mulR a b).2 := by
  unfold mulR
  split
  · exact Small_nil
  · rename_i h1
    split
    · exact Small_nil
    · rename_i h2
      split
      · exact Small_nil
      · rename_i h3
        obtain ⟨ha, p1, p2, p3, p4⟩ := checkM_ok (by simpa using h1)
        obtain ⟨hb, q1, q2, q3, q4⟩ := checkM_ok (by simpa using h2)
        have e : len0 a = b.length := by simpa using h3
        rw [e] at ha
        exact Small_ok (okM_prod ha hb (by omega)) (by omega) (by omega) (by omega)
theorem powR_small (a : List (List Int)) (n : Int) : Small (powR a n).2 := by
  unfold powR
  split
  · exact Small_nil
  · rename_i h1
    split
    · exact Small_nil
    · obtain ⟨ha, p1, p2⟩ := squareM_ok (by simpa using h1)
      exact Small_ok (okM_powMat (by omega) ha _) (by omega) (by omega) (by omega)
theorem greatM_not {rs : List (List Int)} (h : greatM rs = false) : rs.length ≤ 20 ∧ ∀ r ∈ rs, r.length ≤ 20 := by
  simp only [greatM, Bool.or_eq_false_iff, decide_eq_false_iff_not, List.any_eq_false, decide_eq_true_eq] at h
  exact ⟨by omega, fun r hr => by have := h.2 r hr; omega⟩
set_option maxRecDepth 100000 in
set_option maxHeartbeats 3200000 in
theorem FieldProducts_any (a b : List (List Int)) (n : Int) (va vb : Value) (w : World) (ra : RdM w va a) (rb : RdM w vb b) (_hn0 : -9223372036854775808 ≤ n) (hn : n ≤ 9223372036854775807) (hJ : Joins w) :
    Calls Tryd.prog 9 #[va, vb, .int .i64 n] w fun e w' => e = .returned (.bool true) ∧ Below w.heap.size w w' := by
  have hg1 := Lib.hid (great_any a va w ra)
  have hg2 := Lib.hid (fun W (hW : Below w.heap.size w W) => great_any b vb W (rb.below hW (Nat.le_refl _)))
  have hA := Lib.hid (fun W (hW : Below w.heap.size w W) => awake_any W (hJ.below hW))
  cases e1 : greatM a with
  | true =>
    rw [e1] at hg1
    replace e1 := Lib.hid e1
    go_enter Tryd.func9, Tryd.ntmps9
    go_wp2_with fail
    refine hg1.out.mono ?_; rintro e W1 ⟨rfl, hB1⟩
    go_wp2_with fail
    refine (hA.out W1 hB1).mono ?_; rintro e W2 ⟨rfl, hB2⟩
    go_wp2
    go_ret
    exact ⟨rfl, Below.then_ hB1 hB2⟩
  | false =>
    rw [e1] at hg1
    cases e2 : greatM b with
    | true =>
      simp only [e2] at hg2
      replace e1 := Lib.hid e1
      replace e2 := Lib.hid e2
      go_enter Tryd.func9, Tryd.ntmps9
      go_wp2_with fail
      refine hg1.out.mono ?_; rintro e W1 ⟨rfl, hB1⟩
      go_wp2_with fail
      refine (hg2.out W1 hB1).mono ?_; rintro e W2 ⟨rfl, hB2⟩
      have hB3 := Below.then_ hB1 hB2
      go_wp2_with fail
      refine (hA.out W2 hB3).mono ?_; rintro e W3 ⟨rfl, hB4⟩
      go_wp2
      go_ret
      exact ⟨rfl, Below.then_ hB3 hB4⟩
    | false =>
      simp only [e2] at hg2
      obtain ⟨la, ma⟩ := greatM_not e1
      obtain ⟨lb, mb⟩ := greatM_not e2
      have da := Lib.hid (fun W (hW : Below w.heap.size w W) => DupRows_any a va W (ra.below hW (Nat.le_refl _)) (by omega) (fun r hr => by have := ma r hr; omega))
      have db := Lib.hid (fun W (hW : Below w.heap.size w W) => DupRows_any b vb W (rb.below hW (Nat.le_refl _)) (by omega) (fun r hr => by have := mb r hr; omega))
      have rm := Lib.hid (fun W (hW : Below w.heap.size w W) => refMul_any a b va vb W (ra.below hW (Nat.le_refl _)) (rb.below hW (Nat.le_refl _)))
      have rp := Lib.hid (fun W (hW : Below w.heap.size w W) => refPower_any a n va W (ra.below hW (Nat.le_refl _)) hn)
      have rc := Lib.hid (fun W (hW : Below w.heap.size w W) => refCheck_any a va W (ra.below hW (Nat.le_refl _)))
      have fm := Lib.hid (fun vx vy W hx hy => Mul_any a b vx vy W hx hy)
      have fp := Lib.hid (fun vx W hx => Power_any a n vx W hx hn)
      have fc := Lib.hid (fun vx W hx => Check_any a vx W hx)
      have sm := Lib.hid (mulR_small a b)
      have sp := Lib.hid (powR_small a n)
      have rdA : Hid (∀ W base v, OwnM W base v a → RdM W v a) := Lib.hid (fun W base v h => h.rd (by omega) (fun r hr => by have := ma r hr; omega))
      have rdB : Hid (∀ W base v, OwnM W base v b → RdM W v b) := Lib.hid (fun W base v h => h.rd (by omega) (fun r hr => by have := mb r hr; omega))
      replace ra := Lib.hid ra
      replace rb := Lib.hid rb
      clear hJ la ma lb mb e1 e2 hn
      generalize mulR a b = M at *
      generalize powR a n = Q at *
      generalize checkM a = C at *
      obtain ⟨Me, M⟩ := M
      obtain ⟨Qe, Q⟩ := Q
      simp only [MatErr] at rm rp fm fp sm sp
      go_enter Tryd.func9, Tryd.ntmps9
      go_wp2_with fail
      refine hg1.out.mono ?_; rintro e W1 ⟨rfl, hB1⟩
      go_wp2_with fail
      refine (hg2.out W1 hB1).mono ?_; rintro e W2 ⟨rfl, hB2⟩
      replace hB2 := Lib.hid (Below.then_ hB1 hB2)
      clear hB1 hg1 hg2
      go_wp2_with fail
      refine (da.out W2 hB2.out).mono ?_; rintro e W3 ⟨⟨x, rfl, ox⟩, hB3⟩
      replace hB3 := Lib.hid (Below.then_ hB2.out hB3)
      have rx := Lib.hid (rdA.out _ _ _ ox)
      clear ox
      go_wp2_with fail
      refine (db.out W3 hB3.out).mono ?_; rintro e W4 ⟨⟨y, rfl, oy⟩, hB4⟩
      replace rx := Lib.hid (rx.out.below hB4 (Nat.le_refl _))
      replace hB4 := Lib.hid (Below.then_ hB3.out hB4)
      have ry := Lib.hid (rdB.out _ _ _ oy)
      clear oy da db hB2 hB3
      go_wp2_with fail
      refine (rm.out W4 hB4.out).mono ?_; rintro e W5 ⟨m, rfl, om, hB5⟩
      replace rx := Lib.hid (rx.out.below hB5 (Nat.le_refl _))
      replace ry := Lib.hid (ry.out.below hB5 (Nat.le_refl _))
      replace hB5 := Lib.hid (Below.then_ hB4.out hB5)
      have rM := Lib.hid (sm.out.rd om)
      clear om rm hB4
      go_wp2_with fail
      refine (rp.out W5 hB5.out).mono ?_; rintro e W6 ⟨p, rfl, op, hB6⟩
      replace rx := Lib.hid (rx.out.below hB6 (Nat.le_refl _))
      replace ry := Lib.hid (ry.out.below hB6 (Nat.le_refl _))
      replace rM := Lib.hid (rM.out.below hB6 (Nat.le_refl _))
      replace hB6 := Lib.hid (Below.then_ hB5.out hB6)
      have rQ := Lib.hid (sp.out.rd op)
      clear op rp hB5
      go_wp2_with fail
      refine (fm.out x y W6 rx.out ry.out).mono ?_; rintro e W7 ⟨k, rfl, ok, hB7⟩
      replace hB7 := Lib.hid hB7
      replace ok := Lib.hid ok
      have fk := Lib.hid (sm.out.fresh ok.out)
      clear fm
      go_wp2_with fail
      refine (fp.out x W7 (rx.out.below hB7.out (Nat.le_refl _))).mono ?_; rintro e W8 ⟨q, rfl, oq, hB8⟩
      have hB68 := Lib.hid (Below.then_ hB7.out hB8)
      replace fk := Lib.hid (fk.out.kept hB8)
      replace ok := Lib.hid (ok.out.below hB8)
      have h78 := hB8.size
      have h67 := hB7.out.size
      clear hB7 hB8 fp
      replace oq := Lib.hid oq
      go_wp2_with fail
      refine (fc.out x W8 (rx.out.below hB68.out (Nat.le_refl _))).mono ?_; rintro e W9 ⟨rfl, hB9⟩
      replace fk := Lib.hid (fk.out.kept hB9)
      replace ok := Lib.hid (ok.out.below hB9)
      replace oq := Lib.hid (oq.out.below hB9)
      have h89 := hB9.size
      replace hB9 := Lib.hid (Below.then_ hB68.out hB9)
      clear fc hB68
      go_wp2_with fail
      refine (rc.out W9 (Below.then_ hB6.out hB9.out)).mono ?_; rintro e W10 ⟨rfl, hB10⟩
      replace fk := Lib.hid (fk.out.kept hB10)
      replace ok := Lib.hid (ok.out.below hB10)
      replace oq := Lib.hid (oq.out.below hB10)
      have h910 := hB10.size
      replace hB10 := Lib.hid (Below.then_ hB9.out hB10)
      clear rc hB9
      have t1 := Lib.hid (told_any M M k m Me Me W6.heap.size W7.heap.size _ W10 (sm.out.rd ok.out) (rM.out.below hB10.out (Nat.le_refl _)) fk.out (fun j hj => sm.out.row hj))
      rw [show (decide (Me = Me) && decide (M = M)) = true by simp] at t1
      clear ok fk
      go_wp2_with fail
      refine t1.out.mono ?_; rintro e W11 ⟨rfl, hT1⟩
      clear t1
      have h1011 := hT1.size
      replace oq := Lib.hid (hT1.ownM oq.out (Nat.le_refl _))
      have hB11 := Lib.hid (hB10.out.trans (hT1.below (by omega)))
      clear hT1 hB10
      have t2 := Lib.hid (told_any Q Q q p Qe Qe W7.heap.size W11.heap.size _ W11 (sp.out.rd oq.out) (rQ.out.below hB11.out (Nat.le_refl _)) (sp.out.fresh oq.out) (fun j hj => sp.out.row hj))
      clear oq
      rw [show (decide (Qe = Qe) && decide (Q = Q)) = true by simp] at t2
      go_wp2_with fail
      refine t2.out.mono ?_; rintro e W12 ⟨rfl, hT2⟩
      clear t2
      have hB12 := Lib.hid (hB11.out.trans ((hT2.below (by omega)).mono h67))
      clear hT2 hB11
      have q1 := Lib.hid (EqRows_any a a x va W12 (rx.out.below hB12.out (Nat.le_refl _)) (ra.out.below (Below.then_ hB6.out hB12.out) (Nat.le_refl _)))
      rw [decide_eq_true rfl] at q1
      go_wp2_with fail
      refine q1.out.mono ?_; rintro e W13 ⟨rfl, hB13⟩
      replace hB13 := Lib.hid (Below.then_ hB12.out hB13)
      clear q1 hB12
      have q2 := Lib.hid (EqRows_any b b y vb W13 (ry.out.below hB13.out (Nat.le_refl _)) (rb.out.below (Below.then_ hB6.out hB13.out) (Nat.le_refl _)))
      rw [decide_eq_true rfl] at q2
      go_wp2_with fail
      refine q2.out.mono ?_; rintro e W14 ⟨rfl, hB14⟩
      replace hB14 := Lib.hid (Below.then_ hB6.out (Below.then_ hB13.out hB14))
      clear q2 hB13
      go_wp2_with fail
      refine (hA.out W14 hB14.out).mono ?_; rintro e W15 ⟨rfl, hB15⟩
      go_wp2
      go_ret
      exact ⟨rfl, Below.then_ hB14.out hB15⟩
end Go.Proofs.YtfljkcmijnhgkaaDoor

namespace Go.Proofs.YtfljkcmijnhgkaaDoor
open Go.RowKit Go.Shelf
set_option linter.unusedSimpArgs false

theorem refInvR_small (a : List (List Int)) : Small (refInvR a).2 := by
  unfold refInvR
  split
  · exact Small_nil
  · rename_i h1
    split
    · exact Small_nil
    · rename_i h2
      obtain ⟨ha, p1, p2⟩ := squareM_ok (by simpa using h1)
      rw [← invMR_eq h1 h2]
      exact Small_ok (okM_invM ha) (by omega) (by omega) (by omega)
where
  invMR_eq {a : List (List Int)} (h1 : ¬ squareM a ≠ 0) (h2 : ¬ detM a = 0) : invM a = refInvL a := by
    have e := invMR_ref a
    obtain ⟨ha, p1, p2⟩ := squareM_ok (by simpa using h1)
    have hp := (inv_det ha).2 h2
    rw [invMR, refInvR, if_neg h1, if_neg h1, if_neg h2, if_neg (by omega)] at e
    exact congrArg Prod.snd e
theorem charR_len (a : List (List Int)) : (refCharR a).2.length ≤ 1000 := by
  rw [← charR_ref]
  unfold charR
  split
  · simp
  · rename_i h1
    obtain ⟨ha, p1, p2⟩ := squareM_ok (by simpa using h1)
    have := (chP_eq ha (by omega) (by omega) a.length (Nat.le_refl _)).2.1
    rw [this]; omega
set_option maxRecDepth 100000 in
set_option maxHeartbeats 3200000 in
theorem FieldEliminates_any (a : List (List Int)) (va : Value) (w : World) (ra : RdM w va a) (hJ : Joins w) :
    Calls Tryd.prog 7 #[va] w fun e w' => e = .returned (.bool true) ∧ Below w.heap.size w w' := by
  have hg1 := Lib.hid (great_any a va w ra)
  have hA := Lib.hid (fun W (hW : Below w.heap.size w W) => awake_any W (hJ.below hW))
  have hT := Lib.hid (Below.refl w.heap.size w)
  cases e1 : greatM a with
  | true =>
    rw [e1] at hg1
    replace e1 := Lib.hid e1
    go_enter Tryd.func7, Tryd.ntmps7
    go_wp2_with fail
    refine (hg1.out).mono ?_; rintro e V1 ⟨rfl, hN1⟩
    replace hT := Lib.hid (Below.then_ hT.out hN1)
    clear hN1
    go_wp2_with fail
    refine (hA.out V1 hT.out).mono ?_; rintro e V2 ⟨rfl, hN2⟩
    replace hT := Lib.hid (Below.then_ hT.out hN2)
    clear hN2
    go_wp2
    go_ret
    exact ⟨rfl, hT.out⟩
  | false =>
    rw [e1] at hg1
    obtain ⟨la, ma⟩ := greatM_not e1
    have da := Lib.hid (fun W (hW : Below w.heap.size w W) => DupRows_any a va W (ra.below hW (Nat.le_refl _)) (by omega) (fun r hr => by have := ma r hr; omega))
    have t1 := Lib.hid (fun W (hW : Below w.heap.size w W) => refRank_any a va W (ra.below hW (Nat.le_refl _)))
    have t2 := Lib.hid (fun W (hW : Below w.heap.size w W) => refDet_any a va W (ra.below hW (Nat.le_refl _)))
    have t3 := Lib.hid (fun W (hW : Below w.heap.size w W) => refInverse_any a va W (ra.below hW (Nat.le_refl _)))
    have t4 := Lib.hid (fun W (hW : Below w.heap.size w W) => refChar_any a va W (ra.below hW (Nat.le_refl _)))
    have p1 := Lib.hid (fun vx W hx => Rank_any a vx W hx)
    have p2 := Lib.hid (fun vx W hx => Det_any a vx W hx)
    have p3 := Lib.hid (fun vx W hx => (invMR_ref a) ▸ Inverse_any a vx W hx)
    have p4 := Lib.hid (fun vx W hx => (charR_ref a) ▸ Char_any a vx W hx)
    have qE := Lib.hid (fun vx W hx (hW : Below w.heap.size w W) => EqRows_any a a vx va W hx (ra.below hW (Nat.le_refl _)))
    rw [decide_eq_true rfl] at qE
    have sM := Lib.hid (refInvR_small a)
    have lC := Lib.hid (charR_len a)
    have rdA : Hid (∀ W base v, OwnM W base v a → RdM W v a) := Lib.hid (fun W base v h => h.rd (by omega) (fun r hr => by have := ma r hr; omega))
    clear hJ la ma ra
    replace e1 := Lib.hid e1
    generalize rankR a = K at *
    generalize detR a = D at *
    generalize refInvR a = M at *
    generalize refCharR a = C at *
    obtain ⟨Kv, Ke⟩ := K
    obtain ⟨Dv, De⟩ := D
    obtain ⟨Me, M⟩ := M
    obtain ⟨Ce, C⟩ := C
    have qT := Lib.hid (fun v u W h1 h2 => (Equal_any C C v u W h1 h2))
    rw [decide_eq_true rfl] at qT
    go_enter Tryd.func7, Tryd.ntmps7
    go_wp2_with fail
    refine (hg1.out).mono ?_; rintro e V1 ⟨rfl, hN1⟩
    replace hT := Lib.hid (Below.then_ hT.out hN1)
    clear hN1
    go_wp2_with fail
    refine (da.out V1 hT.out).mono ?_; rintro e V2 ⟨⟨x, rfl, ox⟩, hN2⟩
    replace hT := Lib.hid (Below.then_ hT.out hN2)
    clear hN2
    have rx := Lib.hid (rdA.out _ _ _ ox)
    clear ox da hg1
    go_wp2_with fail
    refine (t1.out V2 hT.out).mono ?_; rintro e V3 ⟨rfl, hN3⟩
    replace hT := Lib.hid (Below.then_ hT.out hN3)
    replace rx := Lib.hid (rx.out.below hN3 (Nat.le_refl _))
    clear hN3
    go_wp2_with fail
    refine (t2.out V3 hT.out).mono ?_; rintro e V4 ⟨rfl, hN4⟩
    replace hT := Lib.hid (Below.then_ hT.out hN4)
    replace rx := Lib.hid (rx.out.below hN4 (Nat.le_refl _))
    clear hN4
    go_wp2_with fail
    refine (t3.out V4 hT.out).mono ?_; rintro e V5 ⟨mv, rfl, om, hN5⟩
    replace hT := Lib.hid (Below.then_ hT.out hN5)
    replace rx := Lib.hid (rx.out.below hN5 (Nat.le_refl _))
    clear hN5
    change OwnM _ _ _ M at om
    have rm := Lib.hid (sM.out.rd om)
    clear om
    go_wp2_with fail
    refine (t4.out V5 hT.out).mono ?_; rintro e P0 ⟨cv, rfl, oc, hN6⟩
    replace hT := Lib.hid (Below.then_ hT.out hN6)
    replace rx := Lib.hid (rx.out.below hN6 (Nat.le_refl _))
    replace rm := Lib.hid (rm.out.below hN6 (Nat.le_refl _))
    have z_P0 := hN6.size; clear hN6
    change OwnI _ _ _ C at oc
    have rc := Lib.hid (oc.rd (by have := lC.out; omega))
    clear oc t1 t2 t3 t4
    have hP := Lib.hid (Below.refl P0.heap.size P0)
    have rx' := Lib.hid (fun W (hW : Below P0.heap.size P0 W) => rx.out.below hW (Nat.le_refl _))
    have rm' := Lib.hid (fun W (hW : Below P0.heap.size P0 W) => rm.out.below hW (Nat.le_refl _))
    have rc' := Lib.hid (fun W (hW : Below P0.heap.size P0 W) => rc.out.below hW (Nat.le_refl _))
    have hA' := Lib.hid (fun W (hW : Below P0.heap.size P0 W) => hA.out W (Below.then_ hT.out hW))
    have hT' := Lib.hid (fun W (hW : Below P0.heap.size P0 W) => Below.then_ hT.out hW)
    clear rx rm hT
    clear rc hA
    go_wp2_with fail
    refine (p1.out _ P0 (rx'.out _ hP.out)).mono ?_; rintro e P1 ⟨rfl, hN7⟩
    replace hP := Lib.hid (Below.then_ hP.out hN7)
    have z_P1 := hN7.size; clear hN7
    go_wp2_with fail
    refine (p2.out _ P1 (rx'.out _ hP.out)).mono ?_; rintro e P2 ⟨rfl, hN8⟩
    replace hP := Lib.hid (Below.then_ hP.out hN8)
    have z_P2 := hN8.size; clear hN8
    go_wp2_with fail
    refine (p3.out _ P2 (rx'.out _ hP.out)).mono ?_; rintro e P3 ⟨iv, rfl, ri, fi, hN9⟩
    replace hP := Lib.hid (Below.then_ hP.out hN9)
    have z_P3 := hN9.size; clear hN9
    replace ri := Lib.hid ri
    replace fi := Lib.hid fi
    go_wp2_with fail
    refine (p4.out _ P3 (rx'.out _ hP.out)).mono ?_; rintro e P4 ⟨kv, rfl, ok, hN10⟩
    replace hP := Lib.hid (Below.then_ hP.out hN10)
    replace ri := Lib.hid (ri.out.below hN10 (Nat.le_refl _))
    replace fi := Lib.hid (fi.out.kept hN10)
    have z_P4 := hN10.size; clear hN10
    change OwnI _ _ _ C at ok
    replace ok := Lib.hid ok
    clear p1 p2 p3 p4
    have ht1 := Lib.hid (told_any M M iv mv Me Me P2.heap.size P3.heap.size _ P4 ri.out (rm'.out _ hP.out) fi.out (fun j hj => sM.out.row hj))
    rw [show (decide (Me = Me) && decide (M = M)) = true by simp] at ht1
    clear ri fi
    go_wp2_with fail
    refine ht1.out.mono ?_; rintro e P5 ⟨rfl, hB5⟩
    have rk := Lib.hid ((hB5.ownI ok.out (Nat.le_refl _)).rd (by have := lC.out; omega))
    clear ok ht1
    replace hP := Lib.hid (hP.out.trans ((hB5.below (by omega)).mono (by omega)))
    have z_P5 := hB5.size; clear hB5
    go_wp2_with fail
    refine (qT.out _ _ P5 rk.out (rc'.out _ hP.out)).mono ?_; rintro e V11 ⟨rfl, hN11⟩
    replace hP := Lib.hid (Below.then_ hP.out hN11)
    replace rk := Lib.hid (rk.out.below hN11 (Nat.le_refl _))
    clear hN11
    go_wp2_with fail
    refine (qE.out _ V11 (rx'.out _ hP.out) (hT'.out _ hP.out)).mono ?_; rintro e V12 ⟨rfl, hN12⟩
    replace hP := Lib.hid (Below.then_ hP.out hN12)
    replace rk := Lib.hid (rk.out.below hN12 (Nat.le_refl _))
    clear hN12
    go_wp2_with fail
    refine (hA'.out V12 hP.out).mono ?_; rintro e V13 ⟨rfl, hN13⟩
    replace hP := Lib.hid (Below.then_ hP.out hN13)
    replace rk := Lib.hid (rk.out.below hN13 (Nat.le_refl _))
    clear hN13
    go_wp2
    go_ret
    exact ⟨rfl, hT'.out _ hP.out⟩
end Go.Proofs.YtfljkcmijnhgkaaDoor

namespace Go.Proofs.YtfljkcmijnhgkaaDoor
open Go Go.ChangeShapes Go.WideShapes Go.ChangeAt Go.WideMaps Go.WideElems Go.RowKit Go.Shelf

set_option maxRecDepth 100000 in
theorem fieldEliminates_lifted (os : Os) (started : os.Started) (H : Type) (enc : TypeId × Value → H) :
    ReturnsInHanded {} Tryd.checked os 7 .any (fun w args => (Rows.fieldEliminatesSpec.pre enc Tryd.prog Tryd.f7 [] false w args ∧ laidMetH Tryd.prog [("roundelay/field.joins", Rows.laid_roundelay_field_joins)] w) ∧ sizedMet enc Tryd.prog Tryd.f7 (OpenSpec.ofChange Rows.fieldEliminatesSpec) false w args)
      (Rows.fieldEliminatesSpec.post enc Tryd.prog Tryd.f7 false true false false) := by
  have hpar : Tryd.f7.params = #[22] := by kernel_rfl
  refine returnsInHanded_of_change_and (C := Tryd.checked) (X := fun w _ => laidMetH Tryd.prog [("roundelay/field.joins", Rows.laid_roundelay_field_joins)] w) (fun _ _ _ hh h => h.of_heap hh) own started (by kernel_rfl) Tryd.func7
    (ChangeSpec.witness_shaped (enc := enc) (C := Tryd.checked) (os := os) (X := fun w _ => laidMetH Tryd.prog [("roundelay/field.joins", Rows.laid_roundelay_field_joins)] w) false (World.doorLaid Tryd.prog 32 os) #[.slice none 0 0] 8 rfl (World.shaped_of_RefB (by kernel_rfl) (by kernel_rfl)) (by kernel_rfl) (by kernel_rfl) (by kernel_rfl) (door_met os _)) ?_
  intro W base args ds gs before hval0 hW _ hwt0 hL _
  have hval : ∀ (j : Nat) t v, Tryd.f7.params[j]? = some t → args[j]? = some v → Value.okWide Tryd.prog W .any base t v := hval0
  have hwt : (DataW.weightsEach Tryd.prog (Tryd.f7.params.toList ++ Rows.fieldEliminatesSpec.plain.varTypes Tryd.prog) (ds ++ gs)).all (· ≤ reachBytes) = true := hwt0
  have hW' := hW
  have hlt := fun x hx => hW.lt x hx
  obtain ⟨p, q, hA0, hV, rfl, hfz, hnd⟩ := hW
  have hA : DataW.TrodAll enc Tryd.prog W 0 (fun _ => true) true Tryd.f7.params.toList args.toList ds p := hA0
  rw [hpar] at hA hval hwt
  obtain ⟨v0, d0, rfl, rfl, h0⟩ := trodAll_one hA
  obtain ⟨rfl, rfl⟩ := trodVars_none hV
  obtain ⟨x0, r0⟩ := open_mat (hval 0 22 v0 rfl rfl) h0 (fun n hn => by simpa using List.all_eq_true.1 hwt n (DataW.weights_mem_each (j := 0) rfl rfl n hn))
  have hJ := joins_of_laid hL
  clear hA0 hval0 hwt0
  simp only [List.append_nil] at hW' hlt
  refine (FieldEliminates_any x0 v0 W r0 hJ).mono fun e W' ⟨he, hb⟩ => ?_
  subst he
  exact ⟨_, rfl, post_of_below (pv := []) hW' (fun _ _ _ => trodAll_mk1 (shut_bool Tryd.underlying4 _)) (fun sp hsp => by rw [hpar]; exact trodAll_mk1 (stays readM sizeP.2.2 h0 hb (fun x hx => hlt x (by simp [hx])) (fun x hx => hsp x (by simp [hx])))) (fun _ _ => rfl) (by simp) hb (ok_one (by kernel_rfl) rfl (okWide_bool_mk Tryd.underlying4 _))⟩
theorem fieldEliminates_holds : Rows.FieldEliminatesSaid :=
  OpenClaim.holds_of_wide 7 Tryd.f7 rfl rfl rfl rfl rfl rfl rfl ⟨rfl, rfl, rfl, rfl, rfl⟩ rfl rfl rfl rfl rfl (by kernel_rfl) Tryd.func7 (by kernel_rfl)
    (of_decide_eq_true (by kernel_rfl)) (by unfold Func.isWrapper; first | (rw [if_pos (by decide +kernel)]; kernel_rfl) | (rw [if_neg (by decide +kernel)]; exact ⟨rfl, rfl⟩))
    (fun os started H enc _ => fieldEliminates_lifted os started H enc)
theorem fieldEliminates_card : Rows.FieldEliminatesCardSaid :=
  Claim7.holds_tied_plain_at .later [] [.funcs] true (true, "c9953d1c884ea4c2f077ddb0d8b19b699c88aa184a56d8435a38da9d9625875e") false
    fieldEliminates_holds (fun _ h => by cases h) (by kernel_rfl) (fun _ h => by cases h) fieldEliminates_row_tie rfl ⟨rfl, rfl⟩ (by kernel_rfl) rfl
    (fun f fn hf hfn => by
      obtain rfl : f = 7 := Option.some.inj ((show Tryd.prog.funcNamed "roundelay/roundelaylaw16.FieldEliminates" = some 7 by kernel_rfl).symm.trans hf) |>.symm
      obtain rfl : fn = Tryd.f7 := (Option.some.inj (Tryd.func7.symm.trans hfn)).symm
      exact ⟨by kernel_rfl, fun j t ht => by
        rw [show Tryd.f7.params = #[22] from by kernel_rfl] at ht
        have hm : t ∈ ([22] : List Nat) := by simpa using Array.mem_of_getElem? ht
        have hall : (([22] : List Nat).all fun u => !Tryd.prog.wantsStandIn u) = true := by kernel_rfl
        exact (show Tryd.prog.wantsStandIn t = false by simpa using List.all_eq_true.1 hall t hm)⟩)
    (by kernel_rfl)
#print axioms fieldEliminates_card
end Go.Proofs.YtfljkcmijnhgkaaDoor
