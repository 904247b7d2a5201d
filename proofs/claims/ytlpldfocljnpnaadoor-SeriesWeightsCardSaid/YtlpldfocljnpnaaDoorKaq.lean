/- THE LAW SeriesWeights OF LAYER 17 ANSWERS true AT EVERY INPUT, and its arguments read behind the call as before: its tied card. Condition: the table of ways is as the program's text lays it, and no argument weighs more than the reach. -/
import Derived.Test.YtlpldfocljnpnaaDoorKak
import Derived.Test.YtlpldfocljnpnaaDoorKap
import Derived.Test.YtlpldfocljnpnaaDoorCards
set_option maxRecDepth 100000
set_option maxHeartbeats 6400000
set_option linter.unusedSimpArgs false
namespace Go.Proofs.YtlpldfocljnpnaaDoor
open Go Go.ChangeShapes Go.WideShapes Go.ChangeAt Go.WideMaps Go.WideElems Go.RowKit Go.Shelf Go.ChangeMaps
theorem seriesWeights_lifted (os : Os) (started : os.Started) (H : Type) (enc : TypeId × Value → H) :
  ReturnsInHanded {} Tryd.checked os 4 .any (fun w args => (Rows.seriesWeightsSpec.pre enc Tryd.prog Tryd.f4 [] false w args ∧ laidMetH Tryd.prog [("roundelay/series.ways", Rows.laid_roundelay_series_ways)] w) ∧ sizedMet enc Tryd.prog Tryd.f4 (OpenSpec.ofChange Rows.seriesWeightsSpec) false w args)
   (Rows.seriesWeightsSpec.post enc Tryd.prog Tryd.f4 false true false false) := by
 have hpar : Tryd.f4.params = #[25, 9] := by kernel_rfl
 refine returnsInHanded_of_change_and (C := Tryd.checked) (X := fun w _ => laidMetH Tryd.prog [("roundelay/series.ways", Rows.laid_roundelay_series_ways)] w) (fun _ _ _ hh h => h.of_heap hh) ownA_ started (by kernel_rfl) Tryd.func4
  (ChangeSpec.witness_shaped (enc := enc) (C := Tryd.checked) (os := os) (X := fun w _ => laidMetH Tryd.prog [("roundelay/series.ways", Rows.laid_roundelay_series_ways)] w) false (World.doorLaid Tryd.prog 32 os) #[.agg #[.int .i64 0, .slice none 0 0, .slice none 0 0, .slice none 0 0], .string ⟨#[]⟩] 8 rfl (World.shaped_of_RefB (by kernel_rfl) (by kernel_rfl)) (by kernel_rfl) (by kernel_rfl) (by kernel_rfl) (door_metA os _)) ?_
 intro W base args ds gs before hval0 hW _ hwt0 hL _
 have hval : ∀ (j : Nat) t v, Tryd.f4.params[j]? = some t → args[j]? = some v → Value.okWide Tryd.prog W .any base t v := hval0
 have hwt : (DataW.weightsEach Tryd.prog (Tryd.f4.params.toList ++ Rows.seriesWeightsSpec.plain.varTypes Tryd.prog) (ds ++ gs)).all (· ≤ reachBytes) = true := hwt0
 have hW' := hW
 have hlt := fun x hx => hW.lt x hx
 obtain ⟨p, q, hA0, hV, rfl, hfz, hnd⟩ := hW
 have hA : DataW.TrodAll enc Tryd.prog W 0 (fun _ => true) true Tryd.f4.params.toList args.toList ds p := hA0
 rw [hpar] at hA hval hwt
 obtain ⟨v0, v1, d0, d1, p0, p1, rfl, rfl, rfl, h0, h1⟩ := trodAll_two hA
 obtain ⟨rfl, rfl⟩ := trodVars_none hV
 obtain ⟨x0, s0, e0, t0, rfl, r0, lo0, hi0⟩ := open_aut (hval 0 25 v0 rfl rfl) h0 (fun n hn => by simpa using List.all_eq_true.1 hwt n (DataW.weights_mem_each (j := 0) rfl rfl n hn))
 obtain ⟨k1, rfl, rfl, rfl, hk1⟩ := open_string Tryd.underlying9 (hval 1 9 v1 rfl rfl) h1
 have hJ := ways_of_laid hL
 clear hA0 hval0 hwt0
 simp only [List.append_nil] at hW' hlt
 refine (SeriesWeights_any x0 s0 e0 t0 k1 W r0 lo0 hi0 hk1 hJ).mono fun e W' ⟨he, hb⟩ => ?_
 subst he
 exact ⟨_, rfl, post_of_belowA (pv := []) hW' (fun _ _ _ => trodAll_mk1 (shut_bool Tryd.underlying4 _)) (fun sp hsp => by rw [hpar]; exact trodAll_mk2 (staysA readA sizeA_ h0 hb (fun x hx => hlt x (by simp [hx])) (fun x hx => hsp x (by simp [hx]))) (shut_string Tryd.underlying9 hk1)) (fun _ _ => rfl) (by simp) hb (ok_one (by kernel_rfl) rfl (okWide_bool_mk Tryd.underlying4 _))⟩
theorem seriesWeights_holds : Rows.SeriesWeightsSaid :=
 OpenClaim.holds_of_wide 4 Tryd.f4 rfl rfl rfl rfl rfl rfl rfl ⟨rfl, rfl, rfl, rfl, rfl⟩ rfl rfl rfl rfl rfl (by kernel_rfl) Tryd.func4 (by kernel_rfl)
  (of_decide_eq_true (by kernel_rfl)) (by unfold Func.isWrapper; first | (rw [if_pos (by decide +kernel)]; kernel_rfl) | (rw [if_neg (by decide +kernel)]; exact ⟨rfl, rfl⟩))
  (fun os started H enc _ => seriesWeights_lifted os started H enc)
theorem seriesWeights_card : Rows.SeriesWeightsCardSaid :=
 Claim7.holds_tied_plain_at .later [] [.funcs] true (true, "eccee2b71bde59e3e2587f2f982d8df8135372091d22c71b5ba07807a11c4610") false
  seriesWeights_holds (fun _ h => by cases h) (by kernel_rfl) (fun _ h => by cases h) seriesWeights_row_tie rfl ⟨rfl, rfl⟩ (by kernel_rfl) rfl
  (fun f fn hf hfn => by
   obtain rfl : f = 4 := Option.some.inj ((show Tryd.prog.funcNamed "roundelay/roundelaylaw17.SeriesWeights" = some 4 by kernel_rfl).symm.trans hf) |>.symm
   obtain rfl : fn = Tryd.f4 := (Option.some.inj (Tryd.func4.symm.trans hfn)).symm
   exact ⟨by kernel_rfl, fun j t ht => by
    rw [show Tryd.f4.params = #[25, 9] from by kernel_rfl] at ht
    have hm : t ∈ ([25, 9] : List Nat) := by simpa using Array.mem_of_getElem? ht
    have hall : (([25, 9] : List Nat).all fun u => !Tryd.prog.wantsStandIn u) = true := by kernel_rfl
    exact (show Tryd.prog.wantsStandIn t = false by simpa using List.all_eq_true.1 hall t hm)⟩)
  (by kernel_rfl)
#print axioms seriesWeights_card
end Go.Proofs.YtlpldfocljnpnaaDoor
