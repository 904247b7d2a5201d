/- FieldProducts: its contract. THE LAW FieldProducts OF LAYER 16 ANSWERS true AT EVERY INPUT, and its arguments read behind the call as before: its tied card. Condition: the table joins is as the program's text lays it, and no argument weighs more than the reach. -/
import Derived.Test.YtfljkcmijnhgkaaDoorKr
import Derived.Test.YtfljkcmijnhgkaaDoorKn
import Derived.Test.YtfljkcmijnhgkaaDoorKs
import Derived.Test.YtfljkcmijnhgkaaDoorCards
namespace Go.Proofs.YtfljkcmijnhgkaaDoor
open Go.RowKit Go.Shelf
set_option linter.unusedSimpArgs false

/-- A matrix of which no row is empty, and that is not too great. -/
def Small (rs : List (List Int)) : Prop := rs.length ≤ 1000 ∧ ∀ r ∈ rs, 0 < r.length ∧ r.length ≤ 1000
theorem Small_nil : Small [] := ⟨by decide, fun r hr => by cases hr⟩
theorem Small_ok {rs : List (List Int)} {n m : Nat} (h : okM rs n m) (hn : n ≤ 1000) (h0 : 0 < m) (hm : m ≤ 1000) : Small rs := ⟨by rw [h.1]; exact hn, fun r hr => by rw [(h.2 r hr).1]; exact ⟨h0, hm⟩⟩
theorem Small.row {rs : List (List Int)} (h : Small rs) {k : Nat} (hk : k < rs.length) : 0 < (rs.getD k []).length := by
  rw [List.getD_eq_getElem?_getD, List.getElem?_eq_getElem hk]
  exact (h.2 _ (List.getElem_mem hk)).1
theorem Small.rd {rs : List (List Int)} (h : Small rs) {w : World} {base : Nat} {v : Value} (ho : OwnM w base v rs) : RdM w v rs := ho.rd (by have := h.1; omega) (fun r hr => by have := (h.2 r hr).2; omega)
theorem Small.fresh {rs : List (List Int)} (h : Small rs) {w : World} {base : Nat} {v : Value} (ho : OwnM w base v rs) : FreshV base w.heap.size w v rs.length fun k => (rs.getD k []).length := ho.fresh (by have := h.1; omega) (fun r hr => by have := (h.2 r hr).2; omega)
theorem mulR_small (a b : List (List Int)) : Small (mulR a b).2 := by
  unfold mulR
  split
  · exact Small_nil
  · rename_i h1
    split
    · exact Small_nil
    · rename_i h2
      split
      · exact Small_nil
      · rename_i h3
        obtain ⟨ha, p1, p2, p3, p4⟩ := checkM_ok (by simpa using h1)
        obtain ⟨hb, q1, q2, q3, q4⟩ := checkM_ok (by simpa using h2)
        have e : len0 a = b.length := by simpa using h3
        rw [e] at ha
        exact Small_ok (okM_prod ha hb (by omega)) (by omega) (by omega) (by omega)
theorem powR_small (a : List (List Int)) (n : Int) : Small (powR a n).2 := by
  unfold powR
  split
  · exact Small_nil
  · rename_i h1
    split
    · exact Small_nil
    · obtain ⟨ha, p1, p2⟩ := squareM_ok (by simpa using h1)
      exact Small_ok (okM_powMat (by omega) ha _) (by omega) (by omega) (by omega)
theorem greatM_not {rs : List (List Int)} (h : greatM rs = false) : rs.length ≤ 20 ∧ ∀ r ∈ rs, r.length ≤ 20 := by
  simp only [greatM, Bool.or_eq_false_iff, decide_eq_false_iff_not, List.any_eq_false, decide_eq_true_eq] at h
  exact ⟨by omega, fun r hr => by have := h.2 r hr; omega⟩
set_option maxRecDepth 100000 in
set_option maxHeartbeats 3200000 in
theorem FieldProducts_any (a b : List (List Int)) (n : Int) (va vb : Value) (w : World) (ra : RdM w va a) (rb : RdM w vb b) (_hn0 : -9223372036854775808 ≤ n) (hn : n ≤ 9223372036854775807) (hJ : Joins w) :
    Calls Tryd.prog 9 #[va, vb, .int .i64 n] w fun e w' => e = .returned (.bool true) ∧ Below w.heap.size w w' := by
  have hg1 := Lib.hid (great_any a va w ra)
  have hg2 := Lib.hid (fun W (hW : Below w.heap.size w W) => great_any b vb W (rb.below hW (Nat.le_refl _)))
  have hA := Lib.hid (fun W (hW : Below w.heap.size w W) => awake_any W (hJ.below hW))
  cases e1 : greatM a with
  | true =>
    rw [e1] at hg1
    replace e1 := Lib.hid e1
    go_enter Tryd.func9, Tryd.ntmps9
    go_wp2_with fail
    refine hg1.out.mono ?_; rintro e W1 ⟨rfl, hB1⟩
    go_wp2_with fail
    refine (hA.out W1 hB1).mono ?_; rintro e W2 ⟨rfl, hB2⟩
    go_wp2
    go_ret
    exact ⟨rfl, Below.then_ hB1 hB2⟩
  | false =>
    rw [e1] at hg1
    cases e2 : greatM b with
    | true =>
      simp only [e2] at hg2
      replace e1 := Lib.hid e1
      replace e2 := Lib.hid e2
      go_enter Tryd.func9, Tryd.ntmps9
      go_wp2_with fail
      refine hg1.out.mono ?_; rintro e W1 ⟨rfl, hB1⟩
      go_wp2_with fail
      refine (hg2.out W1 hB1).mono ?_; rintro e W2 ⟨rfl, hB2⟩
      have hB3 := Below.then_ hB1 hB2
      go_wp2_with fail
      refine (hA.out W2 hB3).mono ?_; rintro e W3 ⟨rfl, hB4⟩
      go_wp2
      go_ret
      exact ⟨rfl, Below.then_ hB3 hB4⟩
    | false =>
      simp only [e2] at hg2
      obtain ⟨la, ma⟩ := greatM_not e1
      obtain ⟨lb, mb⟩ := greatM_not e2
      have da := Lib.hid (fun W (hW : Below w.heap.size w W) => DupRows_any a va W (ra.below hW (Nat.le_refl _)) (by omega) (fun r hr => by have := ma r hr; omega))
      have db := Lib.hid (fun W (hW : Below w.heap.size w W) => DupRows_any b vb W (rb.below hW (Nat.le_refl _)) (by omega) (fun r hr => by have := mb r hr; omega))
      have rm := Lib.hid (fun W (hW : Below w.heap.size w W) => refMul_any a b va vb W (ra.below hW (Nat.le_refl _)) (rb.below hW (Nat.le_refl _)))
      have rp := Lib.hid (fun W (hW : Below w.heap.size w W) => refPower_any a n va W (ra.below hW (Nat.le_refl _)) hn)
      have rc := Lib.hid (fun W (hW : Below w.heap.size w W) => refCheck_any a va W (ra.below hW (Nat.le_refl _)))
      have fm := Lib.hid (fun vx vy W hx hy => Mul_any a b vx vy W hx hy)
      have fp := Lib.hid (fun vx W hx => Power_any a n vx W hx hn)
      have fc := Lib.hid (fun vx W hx => Check_any a vx W hx)
      have sm := Lib.hid (mulR_small a b)
      have sp := Lib.hid (powR_small a n)
      have rdA : Hid (∀ W base v, OwnM W base v a → RdM W v a) := Lib.hid (fun W base v h => h.rd (by omega) (fun r hr => by have := ma r hr; omega))
      have rdB : Hid (∀ W base v, OwnM W base v b → RdM W v b) := Lib.hid (fun W base v h => h.rd (by omega) (fun r hr => by have := mb r hr; omega))
      replace ra := Lib.hid ra
      replace rb := Lib.hid rb
      clear hJ la ma lb mb e1 e2 hn
      generalize mulR a b = M at *
      generalize powR a n = Q at *
      generalize checkM a = C at *
      obtain ⟨Me, M⟩ := M
      obtain ⟨Qe, Q⟩ := Q
      simp only [MatErr] at rm rp fm fp sm sp
      go_enter Tryd.func9, Tryd.ntmps9
      go_wp2_with fail
      refine hg1.out.mono ?_; rintro e W1 ⟨rfl, hB1⟩
      go_wp2_with fail
      refine (hg2.out W1 hB1).mono ?_; rintro e W2 ⟨rfl, hB2⟩
      replace hB2 := Lib.hid (Below.then_ hB1 hB2)
      clear hB1 hg1 hg2
      go_wp2_with fail
      refine (da.out W2 hB2.out).mono ?_; rintro e W3 ⟨⟨x, rfl, ox⟩, hB3⟩
      replace hB3 := Lib.hid (Below.then_ hB2.out hB3)
      have rx := Lib.hid (rdA.out _ _ _ ox)
      clear ox
      go_wp2_with fail
      refine (db.out W3 hB3.out).mono ?_; rintro e W4 ⟨⟨y, rfl, oy⟩, hB4⟩
      replace rx := Lib.hid (rx.out.below hB4 (Nat.le_refl _))
      replace hB4 := Lib.hid (Below.then_ hB3.out hB4)
      have ry := Lib.hid (rdB.out _ _ _ oy)
      clear oy da db hB2 hB3
      go_wp2_with fail
      refine (rm.out W4 hB4.out).mono ?_; rintro e W5 ⟨m, rfl, om, hB5⟩
      replace rx := Lib.hid (rx.out.below hB5 (Nat.le_refl _))
      replace ry := Lib.hid (ry.out.below hB5 (Nat.le_refl _))
      replace hB5 := Lib.hid (Below.then_ hB4.out hB5)
      have rM := Lib.hid (sm.out.rd om)
      clear om rm hB4
      go_wp2_with fail
      refine (rp.out W5 hB5.out).mono ?_; rintro e W6 ⟨p, rfl, op, hB6⟩
      replace rx := Lib.hid (rx.out.below hB6 (Nat.le_refl _))
      replace ry := Lib.hid (ry.out.below hB6 (Nat.le_refl _))
      replace rM := Lib.hid (rM.out.below hB6 (Nat.le_refl _))
      replace hB6 := Lib.hid (Below.then_ hB5.out hB6)
      have rQ := Lib.hid (sp.out.rd op)
      clear op rp hB5
      go_wp2_with fail
      refine (fm.out x y W6 rx.out ry.out).mono ?_; rintro e W7 ⟨k, rfl, ok, hB7⟩
      replace hB7 := Lib.hid hB7
      replace ok := Lib.hid ok
      have fk := Lib.hid (sm.out.fresh ok.out)
      clear fm
      go_wp2_with fail
      refine (fp.out x W7 (rx.out.below hB7.out (Nat.le_refl _))).mono ?_; rintro e W8 ⟨q, rfl, oq, hB8⟩
      have hB68 := Lib.hid (Below.then_ hB7.out hB8)
      replace fk := Lib.hid (fk.out.kept hB8)
      replace ok := Lib.hid (ok.out.below hB8)
      have h78 := hB8.size
      have h67 := hB7.out.size
      clear hB7 hB8 fp
      replace oq := Lib.hid oq
      go_wp2_with fail
      refine (fc.out x W8 (rx.out.below hB68.out (Nat.le_refl _))).mono ?_; rintro e W9 ⟨rfl, hB9⟩
      replace fk := Lib.hid (fk.out.kept hB9)
      replace ok := Lib.hid (ok.out.below hB9)
      replace oq := Lib.hid (oq.out.below hB9)
      have h89 := hB9.size
      replace hB9 := Lib.hid (Below.then_ hB68.out hB9)
      clear fc hB68
      go_wp2_with fail
      refine (rc.out W9 (Below.then_ hB6.out hB9.out)).mono ?_; rintro e W10 ⟨rfl, hB10⟩
      replace fk := Lib.hid (fk.out.kept hB10)
      replace ok := Lib.hid (ok.out.below hB10)
      replace oq := Lib.hid (oq.out.below hB10)
      have h910 := hB10.size
      replace hB10 := Lib.hid (Below.then_ hB9.out hB10)
      clear rc hB9
      have t1 := Lib.hid (told_any M M k m Me Me W6.heap.size W7.heap.size _ W10 (sm.out.rd ok.out) (rM.out.below hB10.out (Nat.le_refl _)) fk.out (fun j hj => sm.out.row hj))
      rw [show (decide (Me = Me) && decide (M = M)) = true by simp] at t1
      clear ok fk
      go_wp2_with fail
      refine t1.out.mono ?_; rintro e W11 ⟨rfl, hT1⟩
      clear t1
      have h1011 := hT1.size
      replace oq := Lib.hid (hT1.ownM oq.out (Nat.le_refl _))
      have hB11 := Lib.hid (hB10.out.trans (hT1.below (by omega)))
      clear hT1 hB10
      have t2 := Lib.hid (told_any Q Q q p Qe Qe W7.heap.size W11.heap.size _ W11 (sp.out.rd oq.out) (rQ.out.below hB11.out (Nat.le_refl _)) (sp.out.fresh oq.out) (fun j hj => sp.out.row hj))
      clear oq
      rw [show (decide (Qe = Qe) && decide (Q = Q)) = true by simp] at t2
      go_wp2_with fail
      refine t2.out.mono ?_; rintro e W12 ⟨rfl, hT2⟩
      clear t2
      have hB12 := Lib.hid (hB11.out.trans ((hT2.below (by omega)).mono h67))
      clear hT2 hB11
      have q1 := Lib.hid (EqRows_any a a x va W12 (rx.out.below hB12.out (Nat.le_refl _)) (ra.out.below (Below.then_ hB6.out hB12.out) (Nat.le_refl _)))
      rw [decide_eq_true rfl] at q1
      go_wp2_with fail
      refine q1.out.mono ?_; rintro e W13 ⟨rfl, hB13⟩
      replace hB13 := Lib.hid (Below.then_ hB12.out hB13)
      clear q1 hB12
      have q2 := Lib.hid (EqRows_any b b y vb W13 (ry.out.below hB13.out (Nat.le_refl _)) (rb.out.below (Below.then_ hB6.out hB13.out) (Nat.le_refl _)))
      rw [decide_eq_true rfl] at q2
      go_wp2_with fail
      refine q2.out.mono ?_; rintro e W14 ⟨rfl, hB14⟩
      replace hB14 := Lib.hid (Below.then_ hB6.out (Below.then_ hB13.out hB14))
      clear q2 hB13
      go_wp2_with fail
      refine (hA.out W14 hB14.out).mono ?_; rintro e W15 ⟨rfl, hB15⟩
      go_wp2
      go_ret
      exact ⟨rfl, Below.then_ hB14.out hB15⟩
end Go.Proofs.YtfljkcmijnhgkaaDoor

namespace Go.Proofs.YtfljkcmijnhgkaaDoor
open Go Go.ChangeShapes Go.WideShapes Go.ChangeAt Go.WideMaps Go.WideElems Go.RowKit Go.Shelf

set_option maxRecDepth 100000 in
theorem fieldProducts_lifted (os : Os) (started : os.Started) (H : Type) (enc : TypeId × Value → H) :
    ReturnsInHanded {} Tryd.checked os 9 .any (fun w args => (Rows.fieldProductsSpec.pre enc Tryd.prog Tryd.f9 [] false w args ∧ laidMetH Tryd.prog [("roundelay/field.joins", Rows.laid_roundelay_field_joins)] w) ∧ sizedMet enc Tryd.prog Tryd.f9 (OpenSpec.ofChange Rows.fieldProductsSpec) false w args)
      (Rows.fieldProductsSpec.post enc Tryd.prog Tryd.f9 false true false false) := by
  have hpar : Tryd.f9.params = #[22, 22, 3] := by kernel_rfl
  refine returnsInHanded_of_change_and (C := Tryd.checked) (X := fun w _ => laidMetH Tryd.prog [("roundelay/field.joins", Rows.laid_roundelay_field_joins)] w) (fun _ _ _ hh h => h.of_heap hh) own started (by kernel_rfl) Tryd.func9
    (ChangeSpec.witness_shaped (enc := enc) (C := Tryd.checked) (os := os) (X := fun w _ => laidMetH Tryd.prog [("roundelay/field.joins", Rows.laid_roundelay_field_joins)] w) false (World.doorLaid Tryd.prog 32 os) #[.slice none 0 0, .slice none 0 0, .int .i64 0] 8 rfl (World.shaped_of_RefB (by kernel_rfl) (by kernel_rfl)) (by kernel_rfl) (by kernel_rfl) (by kernel_rfl) (door_met os _)) ?_
  intro W base args ds gs before hval0 hW _ hwt0 hL _
  have hval : ∀ (j : Nat) t v, Tryd.f9.params[j]? = some t → args[j]? = some v → Value.okWide Tryd.prog W .any base t v := hval0
  have hwt : (DataW.weightsEach Tryd.prog (Tryd.f9.params.toList ++ Rows.fieldProductsSpec.plain.varTypes Tryd.prog) (ds ++ gs)).all (· ≤ reachBytes) = true := hwt0
  have hW' := hW
  have hlt := fun x hx => hW.lt x hx
  obtain ⟨p, q, hA0, hV, rfl, hfz, hnd⟩ := hW
  have hA : DataW.TrodAll enc Tryd.prog W 0 (fun _ => true) true Tryd.f9.params.toList args.toList ds p := hA0
  rw [hpar] at hA hval hwt
  obtain ⟨v0, v1, v2, d0, d1, d2, p0, p1, p2, rfl, rfl, rfl, h0, h1, h2⟩ := trodAll_three hA
  obtain ⟨rfl, rfl⟩ := trodVars_none hV
  obtain ⟨x0, r0⟩ := open_mat (hval 0 22 v0 rfl rfl) h0 (fun n hn => by simpa using List.all_eq_true.1 hwt n (DataW.weights_mem_each (j := 0) rfl rfl n hn))
  obtain ⟨x1, r1⟩ := open_mat (hval 1 22 v1 rfl rfl) h1 (fun n hn => by simpa using List.all_eq_true.1 hwt n (DataW.weights_mem_each (j := 1) rfl rfl n hn))
  obtain ⟨n2, rfl, rfl, rfl, wn2⟩ := open_int Tryd.underlying3 (hval 2 3 v2 rfl rfl) h2
  have hn2 : -9223372036854775808 ≤ n2 ∧ n2 ≤ 9223372036854775807 := by simpa [Lit.wf, IntKind.has, IntKind.min, IntKind.max, IntKind.signed, IntKind.bits] using wn2
  have hJ := joins_of_laid hL
  clear hA0 hval0 hwt0
  simp only [List.append_nil] at hW' hlt
  refine (FieldProducts_any x0 x1 n2 v0 v1 W r0 r1 hn2.1 hn2.2 hJ).mono fun e W' ⟨he, hb⟩ => ?_
  subst he
  exact ⟨_, rfl, post_of_below (pv := []) hW' (fun _ _ _ => trodAll_mk1 (shut_bool Tryd.underlying4 _)) (fun sp hsp => by rw [hpar]; exact trodAll_mk3 (stays readM sizeP.2.2 h0 hb (fun x hx => hlt x (by simp [hx])) (fun x hx => hsp x (by simp [hx]))) (stays readM sizeP.2.2 h1 hb (fun x hx => hlt x (by simp [hx])) (fun x hx => hsp x (by simp [hx]))) (shut_int Tryd.underlying3 wn2)) (fun _ _ => rfl) (by simp) hb (ok_one (by kernel_rfl) rfl (okWide_bool_mk Tryd.underlying4 _))⟩
theorem fieldProducts_holds : Rows.FieldProductsSaid :=
  OpenClaim.holds_of_wide 9 Tryd.f9 rfl rfl rfl rfl rfl rfl rfl ⟨rfl, rfl, rfl, rfl, rfl⟩ rfl rfl rfl rfl rfl (by kernel_rfl) Tryd.func9 (by kernel_rfl)
    (of_decide_eq_true (by kernel_rfl)) (by unfold Func.isWrapper; first | (rw [if_pos (by decide +kernel)]; kernel_rfl) | (rw [if_neg (by decide +kernel)]; exact ⟨rfl, rfl⟩))
    (fun os started H enc _ => fieldProducts_lifted os started H enc)
theorem fieldProducts_card : Rows.FieldProductsCardSaid :=
  Claim7.holds_tied_plain_at .later [] [.funcs] true (true, "c9953d1c884ea4c2f077ddb0d8b19b699c88aa184a56d8435a38da9d9625875e") false
    fieldProducts_holds (fun _ h => by cases h) (by kernel_rfl) (fun _ h => by cases h) fieldProducts_row_tie rfl ⟨rfl, rfl⟩ (by kernel_rfl) rfl
    (fun f fn hf hfn => by
      obtain rfl : f = 9 := Option.some.inj ((show Tryd.prog.funcNamed "roundelay/roundelaylaw16.FieldProducts" = some 9 by kernel_rfl).symm.trans hf) |>.symm
      obtain rfl : fn = Tryd.f9 := (Option.some.inj (Tryd.func9.symm.trans hfn)).symm
      exact ⟨by kernel_rfl, fun j t ht => by
        rw [show Tryd.f9.params = #[22, 22, 3] from by kernel_rfl] at ht
        have hm : t ∈ ([22, 22, 3] : List Nat) := by simpa using Array.mem_of_getElem? ht
        have hall : (([22, 22, 3] : List Nat).all fun u => !Tryd.prog.wantsStandIn u) = true := by kernel_rfl
        exact (show Tryd.prog.wantsStandIn t = false by simpa using List.all_eq_true.1 hall t hm)⟩)
    (by kernel_rfl)
#print axioms fieldProducts_card
end Go.Proofs.YtfljkcmijnhgkaaDoor
