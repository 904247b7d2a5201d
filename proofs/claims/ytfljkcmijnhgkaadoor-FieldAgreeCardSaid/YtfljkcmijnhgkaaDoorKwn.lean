/- Arguments that are bytes; five and six parameters. THE LAW FieldAgree OF LAYER 16 ANSWERS true AT EVERY INPUT, and its arguments read behind the call as before: its tied card. Condition: the table joins is as the program's text lays it, and no argument weighs more than the reach. -/
import Derived.Test.YtfljkcmijnhgkaaDoorKs
import Derived.Test.YtfljkcmijnhgkaaDoorKwf
import Derived.Test.YtfljkcmijnhgkaaDoorKwm
import Derived.Test.YtfljkcmijnhgkaaDoorCards
namespace Go.Proofs.YtfljkcmijnhgkaaDoor
open Go Go.ChangeShapes Go.WideShapes Go.ChangeAt Go.WideMaps Go.WideElems Go.RowKit Go.Shelf
theorem readB : Tryd.prog.readableRec 34 = true := by kernel_rfl
theorem sizeB : 34 < Tryd.prog.types.size := by
  have h : decide (34 < Tryd.prog.types.size) = true := by kernel_rfl
  simpa only [decide_eq_true_eq] using h
theorem cellsB : Tryd.prog.cellsOf 5 = 1 := by kernel_rfl
theorem bytesB : Tryd.prog.bytesOf 5 = 1 := by kernel_rfl
theorem nat_of {k : IntKind} {n : Int} (h0 : k.min = 0) (h : (Lit.int k n).wf = true) : ∃ s : Nat, n = s ∧ (s : Int) ≤ k.max := by
  have hw : k.min ≤ n ∧ n ≤ k.max := by simpa [Lit.wf, IntKind.has] using h
  obtain ⟨s, rfl⟩ := Int.eq_ofNat_of_zero_le (show 0 ≤ n by omega)
  exact ⟨s, rfl, hw.2⟩
section
variable {H : Type} {enc : TypeId × Value → H}
set_option maxRecDepth 100000 in
theorem open_bytes {W : World} {b0 : Nat} {v : Value} {d : DataW H} {p : List MemPlace} (hval : Value.okWide Tryd.prog W .any b0 34 v) (h : DataW.Trod enc Tryd.prog W 0 (fun _ => true) true 34 v d p) (hw : ∀ n ∈ d.weights Tryd.prog 34, n ≤ reachBytes) : ∃ n, RdB W W.heap.size v n := by
  obtain ⟨a, len, cap, rfl⟩ := okWide_slice Tryd.underlying34 hval
  obtain ⟨fuel, hf⟩ := h
  rcases open_ints Tryd.underlying34 Tryd.underlying5 cellsB hf with ⟨hcs, -⟩ | ⟨a, len, cap, zs, hcs, -, hl, hm, hz, hxe, hcell, hwf⟩
  · have hcs' : [Value.slice a len cap] = [.slice none 0 0] := hcs
    simp only [List.cons.injEq, and_true] at hcs'
    rw [hcs']
    exact ⟨0, none, 0, rfl, Nat.le_refl _, by decide, fun hp => by omega⟩
  · rename_i a0 len0 cap0
    have hcs' : [Value.slice a0 len0 cap0] = [.slice (some a) len cap] := hcs
    simp only [List.cons.injEq, and_true] at hcs'
    rw [hcs']
    simp only [if_true] at hz
    have hde : d = .slice (lits .u8 (zs.take len)) (lits .u8 (zs.drop len)) := congrArg Prod.fst hxe
    have hwt : zs.length * 1 ≤ reachBytes := by
      have := hw ((zs.take len).length * 1 + (zs.drop len).length * 1) (by rw [hde]; simp [DataW.weights, Tryd.underlying34, bytesB, lits])
      rw [List.length_take, List.length_drop] at this
      omega
    have hrb := reachBytes_lt
    refine ⟨len, some a, cap, rfl, hl, by omega, fun hp => ?_⟩
    have hs : a.spot = none := by
      have := World.cell?_spot (hcell 0 (by omega))
      simpa [Addr.add] using this
    have hlt : a.block < W.heap.size := by
      have := World.block_lt_of_cell? W _ (hcell 0 (by omega))
      rwa [add_plain a 0 hs] at this
    refine ⟨a.block, a.off, by obtain ⟨b, o, s⟩ := a; cases hs; rfl, hlt, fun j hj => ⟨zs.getD j 0, ?_, ?_⟩⟩
    · have h1 : zs.getD j 0 ∈ zs := by
        rw [List.getD_eq_getElem?_getD, List.getElem?_eq_getElem (by omega)]; exact List.getElem_mem _
      have h2 := hwf _ h1
      have h3 : IntKind.u8.min ≤ zs.getD j 0 ∧ zs.getD j 0 ≤ IntKind.u8.max := by simpa [Lit.wf, IntKind.has] using h2
      have e1 : IntKind.u8.min = 0 := by decide
      have e2 : IntKind.u8.max = 255 := by decide
      omega
    · rw [← add_plain a j hs, hcell j (by omega)]
end
section
variable {H : Type} {enc : TypeId × Value → H} {P : Program} {w : World} {base : Nat} {spare : Nat → Bool} {held : Bool}
theorem trodAll_mk5 {t t' t'' t3 t4 : TypeId} {v v' v'' v3 v4 : Value} {d d' d'' d3 d4 : DataW H} {p p' p'' p3 p4 : List MemPlace} (h : DataW.Trod enc P w base spare held t v d p) (h' : DataW.Trod enc P w base spare held t' v' d' p')
    (h'' : DataW.Trod enc P w base spare held t'' v'' d'' p'') (h3 : DataW.Trod enc P w base spare held t3 v3 d3 p3) (h4 : DataW.Trod enc P w base spare held t4 v4 d4 p4) : DataW.TrodAll enc P w base spare held [t, t', t'', t3, t4] [v, v', v'', v3, v4] [d, d', d'', d3, d4] (p ++ (p' ++ (p'' ++ (p3 ++ p4)))) := ⟨p, p' ++ (p'' ++ (p3 ++ p4)), h, trodAll_mk4 h' h'' h3 h4, rfl⟩
theorem trodAll_six {t t' t'' t3 t4 t5 : TypeId} {args : Array Value} {ds : List (DataW H)} {ps : List MemPlace} (h : DataW.TrodAll enc P w base spare held [t, t', t'', t3, t4, t5] args.toList ds ps) :
    ∃ v v' v'' v3 v4 v5 d d' d'' d3 d4 d5 p p' p'' p3 p4 p5, args = #[v, v', v'', v3, v4, v5] ∧ ds = [d, d', d'', d3, d4, d5] ∧ ps = p ++ p' ++ p'' ++ p3 ++ p4 ++ p5 ∧ DataW.Trod enc P w base spare held t v d p ∧ DataW.Trod enc P w base spare held t' v' d' p' ∧ DataW.Trod enc P w base spare held t'' v'' d'' p'' ∧ DataW.Trod enc P w base spare held t3 v3 d3 p3 ∧ DataW.Trod enc P w base spare held t4 v4 d4 p4 ∧ DataW.Trod enc P w base spare held t5 v5 d5 p5 := by
  obtain ⟨v, vs, d, ds', p, q, hargs, rfl, rfl, hd, hrest⟩ := trodAll_cons h
  obtain ⟨v', vs', d', ds'', p', q', rfl, rfl, rfl, hd', hrest'⟩ := trodAll_cons hrest
  obtain ⟨v'', vs'', d'', ds''', p'', q'', rfl, rfl, rfl, hd'', hrest''⟩ := trodAll_cons hrest'
  obtain ⟨v3, vs3, d3, ds3, p3, q3, rfl, rfl, rfl, hd3, hrest3⟩ := trodAll_cons hrest''
  obtain ⟨v4, vs4, d4, ds4, p4, q4, rfl, rfl, rfl, hd4, hrest4⟩ := trodAll_cons hrest3
  obtain ⟨v5, vs5, d5, ds5, p5, q5, rfl, rfl, rfl, hd5, hrest5⟩ := trodAll_cons hrest4
  obtain ⟨rfl, rfl, rfl⟩ := trodAll_nil hrest5
  exact ⟨v, v', v'', v3, v4, v5, d, d', d'', d3, d4, d5, p, p', p'', p3, p4, p5, by cases args; simp_all, rfl, by simp, hd, hd', hd'', hd3, hd4, hd5⟩
theorem trodAll_mk6 {t t' t'' t3 t4 t5 : TypeId} {v v' v'' v3 v4 v5 : Value} {d d' d'' d3 d4 d5 : DataW H} {p p' p'' p3 p4 p5 : List MemPlace} (h : DataW.Trod enc P w base spare held t v d p) (h' : DataW.Trod enc P w base spare held t' v' d' p')
    (h'' : DataW.Trod enc P w base spare held t'' v'' d'' p'') (h3 : DataW.Trod enc P w base spare held t3 v3 d3 p3) (h4 : DataW.Trod enc P w base spare held t4 v4 d4 p4) (h5 : DataW.Trod enc P w base spare held t5 v5 d5 p5) : DataW.TrodAll enc P w base spare held [t, t', t'', t3, t4, t5] [v, v', v'', v3, v4, v5] [d, d', d'', d3, d4, d5] (p ++ (p' ++ (p'' ++ (p3 ++ (p4 ++ p5))))) := ⟨p, p' ++ (p'' ++ (p3 ++ (p4 ++ p5))), h, trodAll_mk5 h' h'' h3 h4 h5, rfl⟩
end
end Go.Proofs.YtfljkcmijnhgkaaDoor

namespace Go.Proofs.YtfljkcmijnhgkaaDoor
open Go Go.ChangeShapes Go.WideShapes Go.ChangeAt Go.WideMaps Go.WideElems Go.RowKit Go.Shelf
set_option maxRecDepth 100000 in
theorem fieldAgree_lifted (os : Os) (started : os.Started) (H : Type) (enc : TypeId × Value → H) :
    ReturnsInHanded {} Tryd.checked os 8 .any (fun w args => (Rows.fieldAgreeSpec.pre enc Tryd.prog Tryd.f8 [] false w args ∧ laidMetH Tryd.prog [("roundelay/field.joins", Rows.laid_roundelay_field_joins)] w) ∧ sizedMet enc Tryd.prog Tryd.f8 (OpenSpec.ofChange Rows.fieldAgreeSpec) false w args)
      (Rows.fieldAgreeSpec.post enc Tryd.prog Tryd.f8 false true false false) := by
  have hpar : Tryd.f8.params = #[34, 34, 5, 5, 62, 4] := by kernel_rfl
  refine returnsInHanded_of_change_and (C := Tryd.checked) (X := fun w _ => laidMetH Tryd.prog [("roundelay/field.joins", Rows.laid_roundelay_field_joins)] w) (fun _ _ _ hh h => h.of_heap hh) own started (by kernel_rfl) Tryd.func8
    (ChangeSpec.witness_shaped (enc := enc) (C := Tryd.checked) (os := os) (X := fun w _ => laidMetH Tryd.prog [("roundelay/field.joins", Rows.laid_roundelay_field_joins)] w) false (World.doorLaid Tryd.prog 32 os) #[.slice none 0 0, .slice none 0 0, .int .u8 0, .int .u8 0, .int .u64 0, .bool false] 8 rfl (World.shaped_of_RefB (by kernel_rfl) (by kernel_rfl)) (by kernel_rfl) (by kernel_rfl) (by kernel_rfl) (door_met os _)) ?_
  intro W base args ds gs before hval0 hW _ hwt0 hL _
  have hval : ∀ (j : Nat) t v, Tryd.f8.params[j]? = some t → args[j]? = some v → Value.okWide Tryd.prog W .any base t v := hval0
  have hwt : (DataW.weightsEach Tryd.prog (Tryd.f8.params.toList ++ Rows.fieldAgreeSpec.plain.varTypes Tryd.prog) (ds ++ gs)).all (· ≤ reachBytes) = true := hwt0
  have hW' := hW
  have hlt := fun x hx => hW.lt x hx
  obtain ⟨p, q, hA0, hV, rfl, hfz, hnd⟩ := hW
  have hA : DataW.TrodAll enc Tryd.prog W 0 (fun _ => true) true Tryd.f8.params.toList args.toList ds p := hA0
  rw [hpar] at hA hval hwt
  obtain ⟨v0, v1, v2, v3, v4, v5, d0, d1, d2, d3, d4, d5, p0, p1, p2, p3, p4, p5, rfl, rfl, rfl, h0, h1, h2, h3, h4, h5⟩ := trodAll_six hA
  obtain ⟨rfl, rfl⟩ := trodVars_none hV
  obtain ⟨x0, r0⟩ := open_bytes (hval 0 34 v0 rfl rfl) h0 (fun n hn => by simpa using List.all_eq_true.1 hwt n (DataW.weights_mem_each (j := 0) rfl rfl n hn))
  obtain ⟨x1, r1⟩ := open_bytes (hval 1 34 v1 rfl rfl) h1 (fun n hn => by simpa using List.all_eq_true.1 hwt n (DataW.weights_mem_each (j := 1) rfl rfl n hn))
  obtain ⟨n2, rfl, rfl, rfl, wn2⟩ := open_int Tryd.underlying5 (hval 2 5 v2 rfl rfl) h2
  obtain ⟨n2, rfl, hn2⟩ := nat_of (by decide) wn2
  replace hn2 : n2 < 256 := by have e : IntKind.max .u8 = 255 := (by decide); omega
  obtain ⟨n3, rfl, rfl, rfl, wn3⟩ := open_int Tryd.underlying5 (hval 3 5 v3 rfl rfl) h3
  obtain ⟨n3, rfl, hn3⟩ := nat_of (by decide) wn3
  replace hn3 : n3 < 256 := by have e : IntKind.max .u8 = 255 := (by decide); omega
  obtain ⟨n4, rfl, rfl, rfl, wn4⟩ := open_int Tryd.underlying62 (hval 4 62 v4 rfl rfl) h4
  obtain ⟨n4, rfl, hn4⟩ := nat_of (by decide) wn4
  replace hn4 : n4 < 18446744073709551616 := by have e : IntKind.max .u64 = 18446744073709551615 := (by decide); omega
  obtain ⟨n5, rfl, rfl, rfl⟩ := open_bool Tryd.underlying4 (hval 5 4 v5 rfl rfl) h5
  have hJ := joins_of_laid hL
  clear hA0 hval0 hwt0
  simp only [List.append_nil] at hW' hlt
  refine (FieldAgree_any n2 n3 n4 n5 x0 x1 v0 v1 W r0 r1 hn2 hn3 hn4 hJ).mono fun e W' ⟨he, hb⟩ => ?_
  subst he
  exact ⟨_, rfl, post_of_below (pv := []) hW' (fun _ _ _ => trodAll_mk1 (shut_bool Tryd.underlying4 _)) (fun sp hsp => by rw [hpar]; exact trodAll_mk6 (stays readB sizeB h0 hb (fun x hx => hlt x (by simp [hx])) (fun x hx => hsp x (by simp [hx]))) (stays readB sizeB h1 hb (fun x hx => hlt x (by simp [hx])) (fun x hx => hsp x (by simp [hx]))) (shut_int Tryd.underlying5 wn2) (shut_int Tryd.underlying5 wn3) (shut_int Tryd.underlying62 wn4) (shut_bool Tryd.underlying4 n5)) (fun _ _ => rfl) (by simp) hb (ok_one (by kernel_rfl) rfl (okWide_bool_mk Tryd.underlying4 _))⟩
theorem fieldAgree_holds : Rows.FieldAgreeSaid :=
  OpenClaim.holds_of_wide 8 Tryd.f8 rfl rfl rfl rfl rfl rfl rfl ⟨rfl, rfl, rfl, rfl, rfl⟩ rfl rfl rfl rfl rfl (by kernel_rfl) Tryd.func8 (by kernel_rfl)
    (of_decide_eq_true (by kernel_rfl)) (by unfold Func.isWrapper; first | (rw [if_pos (by decide +kernel)]; kernel_rfl) | (rw [if_neg (by decide +kernel)]; exact ⟨rfl, rfl⟩))
    (fun os started H enc _ => fieldAgree_lifted os started H enc)
theorem fieldAgree_card : Rows.FieldAgreeCardSaid :=
  Claim7.holds_tied_plain_at .later [] [.funcs] true (true, "c9953d1c884ea4c2f077ddb0d8b19b699c88aa184a56d8435a38da9d9625875e") false
    fieldAgree_holds (fun _ h => by cases h) (by kernel_rfl) (fun _ h => by cases h) fieldAgree_row_tie rfl ⟨rfl, rfl⟩ (by kernel_rfl) rfl
    (fun f fn hf hfn => by
      obtain rfl : f = 8 := Option.some.inj ((show Tryd.prog.funcNamed "roundelay/roundelaylaw16.FieldAgree" = some 8 by kernel_rfl).symm.trans hf) |>.symm
      obtain rfl : fn = Tryd.f8 := (Option.some.inj (Tryd.func8.symm.trans hfn)).symm
      exact ⟨by kernel_rfl, fun j t ht => by
        rw [show Tryd.f8.params = #[34, 34, 5, 5, 62, 4] from by kernel_rfl] at ht
        have hm : t ∈ ([34, 34, 5, 5, 62, 4] : List Nat) := by simpa using Array.mem_of_getElem? ht
        have hall : (([34, 34, 5, 5, 62, 4] : List Nat).all fun u => !Tryd.prog.wantsStandIn u) = true := by kernel_rfl
        exact (show Tryd.prog.wantsStandIn t = false by simpa using List.all_eq_true.1 hall t hm)⟩)
    (by kernel_rfl)
#print axioms fieldAgree_card
end Go.Proofs.YtfljkcmijnhgkaaDoor
