/- THE LAW FieldTogether OF LAYER 16 ANSWERS true AT EVERY INPUT, and its arguments read behind the call as before: its tied card. Condition: the table joins is as the program's text lays it, and no argument weighs more than the reach. -/
import Derived.Test.YtfljkcmijnhgkaaDoorKs
import Derived.Test.YtfljkcmijnhgkaaDoorKza
import Derived.Test.YtfljkcmijnhgkaaDoorCards
namespace Go.Proofs.YtfljkcmijnhgkaaDoor
open Go Go.ChangeShapes Go.WideShapes Go.ChangeAt Go.WideMaps Go.WideElems Go.RowKit Go.Shelf

set_option maxRecDepth 100000 in
theorem fieldTogether_lifted (os : Os) (started : os.Started) (H : Type) (enc : TypeId × Value → H) :
    ReturnsInHanded {} Tryd.checked os 5 .any (fun w args => (Rows.fieldTogetherSpec.pre enc Tryd.prog Tryd.f5 [] false w args ∧ laidMetH Tryd.prog [("roundelay/field.joins", Rows.laid_roundelay_field_joins)] w) ∧ sizedMet enc Tryd.prog Tryd.f5 (OpenSpec.ofChange Rows.fieldTogetherSpec) false w args)
      (Rows.fieldTogetherSpec.post enc Tryd.prog Tryd.f5 false true false false) := by
  have hpar : Tryd.f5.params = #[49, 49] := by kernel_rfl
  refine returnsInHanded_of_change_and (C := Tryd.checked) (X := fun w _ => laidMetH Tryd.prog [("roundelay/field.joins", Rows.laid_roundelay_field_joins)] w) (fun _ _ _ hh h => h.of_heap hh) own started (by kernel_rfl) Tryd.func5
    (ChangeSpec.witness_shaped (enc := enc) (C := Tryd.checked) (os := os) (X := fun w _ => laidMetH Tryd.prog [("roundelay/field.joins", Rows.laid_roundelay_field_joins)] w) false (World.doorLaid Tryd.prog 32 os) #[.agg #[.slice none 0 0, .slice none 0 0], .agg #[.slice none 0 0, .slice none 0 0]] 8 rfl (World.shaped_of_RefB (by kernel_rfl) (by kernel_rfl)) (by kernel_rfl) (by kernel_rfl) (by kernel_rfl) (door_met os _)) ?_
  intro W base args ds gs before hval0 hW _ hwt0 hL _
  have hval : ∀ (j : Nat) t v, Tryd.f5.params[j]? = some t → args[j]? = some v → Value.okWide Tryd.prog W .any base t v := hval0
  have hwt : (DataW.weightsEach Tryd.prog (Tryd.f5.params.toList ++ Rows.fieldTogetherSpec.plain.varTypes Tryd.prog) (ds ++ gs)).all (· ≤ reachBytes) = true := hwt0
  have hW' := hW
  have hlt := fun x hx => hW.lt x hx
  obtain ⟨p, q, hA0, hV, rfl, hfz, hnd⟩ := hW
  have hA : DataW.TrodAll enc Tryd.prog W 0 (fun _ => true) true Tryd.f5.params.toList args.toList ds p := hA0
  rw [hpar] at hA hval hwt
  obtain ⟨v0, v1, d0, d1, p0, p1, rfl, rfl, rfl, h0, h1⟩ := trodAll_two hA
  obtain ⟨rfl, rfl⟩ := trodVars_none hV
  obtain ⟨x0, r0⟩ := open_rule (hval 0 49 v0 rfl rfl) h0 (fun n hn => by simpa using List.all_eq_true.1 hwt n (DataW.weights_mem_each (j := 0) rfl rfl n hn))
  obtain ⟨x1, r1⟩ := open_rule (hval 1 49 v1 rfl rfl) h1 (fun n hn => by simpa using List.all_eq_true.1 hwt n (DataW.weights_mem_each (j := 1) rfl rfl n hn))
  have hJ := joins_of_laid hL
  clear hA0 hval0 hwt0
  simp only [List.append_nil] at hW' hlt
  refine (FieldTogether_any x0 x1 v0 v1 W r0 r1 hJ).mono fun e W' ⟨he, hb⟩ => ?_
  subst he
  exact ⟨_, rfl, post_of_below (pv := []) hW' (fun _ _ _ => trodAll_mk1 (shut_bool Tryd.underlying4 _)) (fun sp hsp => by rw [hpar]; exact trodAll_mk2 (stays readR sizeP.1 h0 hb (fun x hx => hlt x (by simp [hx])) (fun x hx => hsp x (by simp [hx]))) (stays readR sizeP.1 h1 hb (fun x hx => hlt x (by simp [hx])) (fun x hx => hsp x (by simp [hx])))) (fun _ _ => rfl) (by simp) hb (ok_one (by kernel_rfl) rfl (okWide_bool_mk Tryd.underlying4 _))⟩
theorem fieldTogether_holds : Rows.FieldTogetherSaid :=
  OpenClaim.holds_of_wide 5 Tryd.f5 rfl rfl rfl rfl rfl rfl rfl ⟨rfl, rfl, rfl, rfl, rfl⟩ rfl rfl rfl rfl rfl (by kernel_rfl) Tryd.func5 (by kernel_rfl)
    (of_decide_eq_true (by kernel_rfl)) (by unfold Func.isWrapper; first | (rw [if_pos (by decide +kernel)]; kernel_rfl) | (rw [if_neg (by decide +kernel)]; exact ⟨rfl, rfl⟩))
    (fun os started H enc _ => fieldTogether_lifted os started H enc)
theorem fieldTogether_card : Rows.FieldTogetherCardSaid :=
  Claim7.holds_tied_plain_at .later [] [.funcs] true (true, "c9953d1c884ea4c2f077ddb0d8b19b699c88aa184a56d8435a38da9d9625875e") false
    fieldTogether_holds (fun _ h => by cases h) (by kernel_rfl) (fun _ h => by cases h) fieldTogether_row_tie rfl ⟨rfl, rfl⟩ (by kernel_rfl) rfl
    (fun f fn hf hfn => by
      obtain rfl : f = 5 := Option.some.inj ((show Tryd.prog.funcNamed "roundelay/roundelaylaw16.FieldTogether" = some 5 by kernel_rfl).symm.trans hf) |>.symm
      obtain rfl : fn = Tryd.f5 := (Option.some.inj (Tryd.func5.symm.trans hfn)).symm
      exact ⟨by kernel_rfl, fun j t ht => by
        rw [show Tryd.f5.params = #[49, 49] from by kernel_rfl] at ht
        have hm : t ∈ ([49, 49] : List Nat) := by simpa using Array.mem_of_getElem? ht
        have hall : (([49, 49] : List Nat).all fun u => !Tryd.prog.wantsStandIn u) = true := by kernel_rfl
        exact (show Tryd.prog.wantsStandIn t = false by simpa using List.all_eq_true.1 hall t hm)⟩)
    (by kernel_rfl)
#print axioms fieldTogether_card
end Go.Proofs.YtfljkcmijnhgkaaDoor
