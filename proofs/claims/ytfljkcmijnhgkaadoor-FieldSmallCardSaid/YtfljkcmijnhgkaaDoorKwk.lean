/- THE LAW FieldSmall OF LAYER 16 ANSWERS true AT EVERY INPUT, and its arguments read behind the call as before: its tied card. Condition: the table joins is as the program's text lays it, and no argument weighs more than the reach. -/
import Derived.Test.YtfljkcmijnhgkaaDoorKp
import Derived.Test.YtfljkcmijnhgkaaDoorKg
import Derived.Deep.Matrix
import Derived.Carry
import Derived.SizedLaws
import Derived.Test.YtfljkcmijnhgkaaDoorKwj
import Derived.Test.YtfljkcmijnhgkaaDoorCards
namespace Go.Proofs.YtfljkcmijnhgkaaDoor
open Go Go.ChangeShapes Go.WideShapes Go.ChangeAt Go.WideMaps Go.WideElems Go.RowKit Go.Shelf
set_option maxRecDepth 100000 in
theorem fieldSmall_lifted (os : Os) (started : os.Started) (H : Type) (enc : TypeId × Value → H) :
    ReturnsInHanded {} Tryd.checked os 16 .any (fun w args => (Rows.fieldSmallSpec.pre enc Tryd.prog Tryd.f16 [] false w args ∧ laidMetH Tryd.prog [("roundelay/field.joins", Rows.laid_roundelay_field_joins)] w) ∧ sizedMet enc Tryd.prog Tryd.f16 (OpenSpec.ofChange Rows.fieldSmallSpec) false w args)
      (Rows.fieldSmallSpec.post enc Tryd.prog Tryd.f16 false true false false) := by
  have hpar : Tryd.f16.params = #[] := by kernel_rfl
  refine returnsInHanded_of_change_and (C := Tryd.checked) (X := fun w _ => laidMetH Tryd.prog [("roundelay/field.joins", Rows.laid_roundelay_field_joins)] w) (fun _ _ _ hh h => h.of_heap hh) own started (by kernel_rfl) Tryd.func16
    (ChangeSpec.witness_shaped (enc := enc) (C := Tryd.checked) (os := os) (X := fun w _ => laidMetH Tryd.prog [("roundelay/field.joins", Rows.laid_roundelay_field_joins)] w) false (World.doorLaid Tryd.prog 32 os) #[] 8 rfl (World.shaped_of_RefB (by kernel_rfl) (by kernel_rfl)) (by kernel_rfl) (by kernel_rfl) (by kernel_rfl) (door_met os _)) ?_
  intro W base args ds gs before hval0 hW _ hwt0 hL _
  have hval : ∀ (j : Nat) t v, Tryd.f16.params[j]? = some t → args[j]? = some v → Value.okWide Tryd.prog W .any base t v := hval0
  have hwt : (DataW.weightsEach Tryd.prog (Tryd.f16.params.toList ++ Rows.fieldSmallSpec.plain.varTypes Tryd.prog) (ds ++ gs)).all (· ≤ reachBytes) = true := hwt0
  have hW' := hW
  have hlt := fun x hx => hW.lt x hx
  obtain ⟨p, q, hA0, hV, rfl, hfz, hnd⟩ := hW
  have hA : DataW.TrodAll enc Tryd.prog W 0 (fun _ => true) true Tryd.f16.params.toList args.toList ds p := hA0
  rw [hpar] at hA hval hwt
  obtain ⟨ha, rfl, rfl⟩ := trodAll_nil hA
  obtain rfl : args = #[] := by cases args; simp_all
  obtain ⟨rfl, rfl⟩ := trodVars_none hV
  have hJ := joins_of_laid hL
  clear hA0 hval0 hwt0
  simp only [List.append_nil] at hW' hlt
  refine (FieldSmall_any  W hJ).mono fun e W' ⟨he, hb⟩ => ?_
  subst he
  exact ⟨_, rfl, post_of_below (pv := []) hW' (fun _ _ _ => trodAll_mk1 (shut_bool Tryd.underlying4 _)) (fun sp hsp => by rw [hpar]; exact trodAll_mk0 ) (fun _ _ => rfl) (by simp) hb (ok_one (by kernel_rfl) rfl (okWide_bool_mk Tryd.underlying4 _))⟩
theorem fieldSmall_holds : Rows.FieldSmallSaid :=
  OpenClaim.holds_of_wide 16 Tryd.f16 rfl rfl rfl rfl rfl rfl rfl ⟨rfl, rfl, rfl, rfl, rfl⟩ rfl rfl rfl rfl rfl (by kernel_rfl) Tryd.func16 (by kernel_rfl)
    (of_decide_eq_true (by kernel_rfl)) (by unfold Func.isWrapper; first | (rw [if_pos (by decide +kernel)]; kernel_rfl) | (rw [if_neg (by decide +kernel)]; exact ⟨rfl, rfl⟩))
    (fun os started H enc _ => fieldSmall_lifted os started H enc)
theorem fieldSmall_card : Rows.FieldSmallCardSaid :=
  Claim7.holds_tied_plain_at .later [] [.funcs] true (true, "c9953d1c884ea4c2f077ddb0d8b19b699c88aa184a56d8435a38da9d9625875e") false
    fieldSmall_holds (fun _ h => by cases h) (by kernel_rfl) (fun _ h => by cases h) fieldSmall_row_tie rfl ⟨rfl, rfl⟩ (by kernel_rfl) rfl
    (fun f fn hf hfn => by
      obtain rfl : f = 16 := Option.some.inj ((show Tryd.prog.funcNamed "roundelay/roundelaylaw16.FieldSmall" = some 16 by kernel_rfl).symm.trans hf) |>.symm
      obtain rfl : fn = Tryd.f16 := (Option.some.inj (Tryd.func16.symm.trans hfn)).symm
      exact ⟨by kernel_rfl, fun j t ht => by
        rw [show Tryd.f16.params = #[] from by kernel_rfl] at ht
        simp at ht⟩)
    (by kernel_rfl)
#print axioms fieldSmall_card
end Go.Proofs.YtfljkcmijnhgkaaDoor
