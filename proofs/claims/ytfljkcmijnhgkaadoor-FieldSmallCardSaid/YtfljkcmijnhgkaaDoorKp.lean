/- What the condition on the table gives the walks: its three pairs of functions. The heap that the door's own run leaves meets the condition. -/
import Derived.Test.YtfljkcmijnhgkaaDoorKm
import Derived.Test.YtfljkcmijnhgkaaDoorRows
import Derived.ProofKit
import Derived.LaidMore
import Derived.LaidOnce
import Derived.OpenShut
import Derived.Stop.Joined
import Derived.WideKeyElems2
import Derived.Below
import Derived.ChangeSame
import Derived.Test.YtfljkcmijnhgkaaDoorTie
import Derived.SevenTiedAt
namespace Go.Proofs.YtfljkcmijnhgkaaDoor
open Go Go.ChangeShapes Go.WideShapes Go.ChangeAt Go.WideMaps Go.WideElems Go.RowKit Go.Shelf
def nm (c : UInt8) : List UInt8 := [114, 111, 117, 110, 100, 101, 108, 97, 121, 47, 102, 105, 101, 108, 100, 46, 106, 111, 105, 110, 115, 36, c]
def joinsD : DataW (List UInt8) := .map [(.string [102, 111, 108, 100, 101, 100], .agg [.held (nm 53), .held (nm 54)]), (.string [115, 117, 109], .agg [.held (nm 49), .held (nm 50)]), (.string [116, 105, 109, 101, 115], .agg [.held (nm 51), .held (nm 52)])]
set_option maxRecDepth 100000 in
theorem elem_joins {W : World} {m : Nat} {v : Value} {y : DataW (List UInt8) × List MemPlace} {c d : UInt8} {tf lf : Nat}
    (h : elemAt (funcToken Tryd.prog) Tryd.prog W 0 (fun _ => true) true m 139 v = some y) (hy : y.1 = .agg [.held (nm c), .held (nm d)])
    (ht : ((List.range Tryd.prog.funcs.size).filter fun f => (Tryd.prog.funcs[f]?).any (·.name.toUTF8.data.toList == nm c)) = [tf])
    (hl : ((List.range Tryd.prog.funcs.size).filter fun f => (Tryd.prog.funcs[f]?).any (·.name.toUTF8.data.toList == nm d)) = [lf]) :
    v = .agg #[.func (.func tf) #[] #[], .func (.func lf) #[] #[]] := by
  unfold elemAt at h
  split at h
  · rename_i hf
    obtain ⟨y0, y1, n, hx, hlen, h0, h1⟩ := trod_struct2 Tryd.underlying139 h
    have c2 : Tryd.prog.cellsOf 139 = 2 := by kernel_rfl
    have ca : Tryd.prog.cellsOf 138 = 1 := by kernel_rfl
    have cb : Tryd.prog.cellsOf 75 = 1 := by kernel_rfl
    rw [c2] at hlen
    cases v with
    | agg cs =>
      obtain ⟨l⟩ := cs
      simp only [Value.cells] at hlen h0 h1
      match l, hlen with
      | [a, b], _ =>
        simp only [ca, cb, List.drop_zero, List.drop_succ_cons, List.take_succ_cons, List.take_zero] at h0 h1
        rw [hx] at hy
        simp only [DataW.agg.injEq, List.cons.injEq, and_true] at hy
        obtain ⟨y0a, y0b⟩ := y0
        obtain ⟨y1a, y1b⟩ := y1
        obtain ⟨rfl, rfl⟩ := hy
        obtain rfl := func_of_trod Tryd.underlying138 ht h0
        obtain rfl := func_of_trod Tryd.underlying75 hl h1
        rfl
    | _ => simp [Value.formed, Tryd.underlying139] at hf
  · cases h
set_option maxRecDepth 100000 in
theorem joins_of_laid {W : World} (h : laidMetH Tryd.prog [("roundelay/field.joins", Rows.laid_roundelay_field_joins)] W) : Joins W := by
  obtain ⟨g, t, cs, fuel, p, hg, ht, hv, hd⟩ := h.funcs (n := "roundelay/field.joins") (List.mem_cons_self ..)
  obtain rfl := Option.some.inj ((show Tryd.prog.globalNamed "roundelay/field.joins" = some 0 by kernel_rfl).symm.trans hg)
  obtain rfl := Option.some.inj ((show (Tryd.prog.globals[0]?).map (·.type) = some 140 by kernel_rfl).symm.trans ht)
  have hd' : DataW.trod (funcToken Tryd.prog) Tryd.prog W 0 (fun _ => true) true fuel 140 cs.toList = some (joinsD, p) := hd
  rcases open_map Tryd.underlying140 hd' with ⟨_, hx⟩ | ⟨bm, es, clock, m, rfl, hcs, hb, _, F, hx⟩
  · simp [joinsD] at hx
  simp only [Prod.mk.injEq] at hx
  have hcell : W.cell? ⟨0, 0, none⟩ = some (.map (some bm)) := by
    have := World.var?_cell hg hv 0
    rw [Array.eq_one_of_toList hcs] at this
    simpa using this
  have hlt : bm < W.heap.size := (Array.getElem?_eq_some_iff.1 hb).1
  have key : ∀ (s : ByteArray) (c d : UInt8) (tf lf : Nat), s.size ≤ maxLen → joinsD.atKey (.string s.data.toList) .nil = .agg [.held (nm c), .held (nm d)] →
      ((List.range Tryd.prog.funcs.size).filter fun f => (Tryd.prog.funcs[f]?).any (·.name.toUTF8.data.toList == nm c)) = [tf] →
      ((List.range Tryd.prog.funcs.size).filter fun f => (Tryd.prog.funcs[f]?).any (·.name.toUTF8.data.toList == nm d)) = [lf] → JoinAt W s tf lf := by
    intro s c d tf lf hs hat h1 h2
    refine ⟨bm, hcell, hlt, fun W' e => ?_⟩
    have zero : (zeroValue 139).run Tryd.prog W' = .ok (.agg #[.nilFunc, .nilFunc]) W' := by kernel_rfl
    rcases fit_lookup (w := W') (string_law Tryd.underlying9) Tryd.underlying140 zero (e.trans hb) F (keyOf_string_mk (s := s) Tryd.underlying9 hs) with ⟨_, hz⟩ | ⟨v, y, hrun, hR, hy, _⟩
    · have := hz .nil
      rw [← hx.1, hat] at this
      cases this
    · have := hy .nil
      rw [← hx.1, hat] at this
      rw [elem_joins hR this.symm h1 h2] at hrun
      exact hrun
  exact ⟨key kSum 49 50 _ _ (by decide) (by rfl) (by kernel_rfl) (by kernel_rfl), key kTimes 51 52 _ _ (by decide) (by rfl) (by kernel_rfl) (by kernel_rfl), key kFolded 53 54 _ _ (by decide) (by rfl) (by kernel_rfl) (by kernel_rfl)⟩
section
variable {H : Type} {enc : TypeId × Value → H} {P : Program}
theorem post_of_below {f : Func} {s : ChangeSpec} {apart fresh handsOn again : Bool} {W W' : World} {args : Array Value} {v : Value} {ds gs : List (DataW H)} {before pa pv : List MemPlace}
    (hW : DataW.Whole enc P f.params.toList s.vars apart W args.toList ds gs before)
    (hres : ∀ (b : Nat) (sp : Nat → Bool) (hd : Bool), DataW.TrodAll enc P W' b sp hd f.resultTypes.toList (v.resultList f.resultTypes.size) (s.fn H (ds ++ gs)).results [])
    (hargs : ∀ sp : Nat → Bool, (∀ p ∈ before, sp p.block = true) → DataW.TrodAll enc P W' 0 sp true f.params.toList args.toList (s.fn H (ds ++ gs)).args pa)
    (hvars : ∀ sp : Nat → Bool, (∀ p ∈ before, sp p.block = true) → DataW.TrodVars enc P W' sp s.vars (s.fn H (ds ++ gs)).vars pv)
    (hps : before = pa ++ pv) (hb : Below W.heap.size W W')
    (hok : ∀ (j : Nat) (t : TypeId) (r : Value), f.resultTypes[j]? = some t → (v.resultList f.resultTypes.size)[j]? = some r → Value.okWide P W' .any 0 t r) :
    s.post enc P f apart fresh handsOn again W args v W' := by
  have hlt : ∀ p ∈ before, p.block < W.heap.size := fun p hp => hW.lt p hp
  have hold : ∀ p ∈ before, (fun b => decide (b < W.heap.size)) p.block = true := fun p hp => by simpa using hlt p hp
  refine ⟨ds, gs, before, [], pa, pv, hW, hres _ _ _, hargs _ hold, hvars _ hold, World.keptBut_mono (fun p hp => ⟨hp, ?_⟩) (hb.frame (· ∈ before)), fun _ => ?_⟩
  · rw [hps, List.mem_append] at hp
    exact Or.inr hp
  · obtain ⟨_, _, _, _, _, hz, hn⟩ := hW
    refine ⟨hok, _, _, ([] ++ pa) ++ pv, ⟨[] ++ pa, pv, trodAll_append (hargs _ (fun _ _ => rfl)) (hres _ _ _), hvars _ (fun _ _ => rfl), rfl, ?_, ?_⟩, ?_⟩
    · intro b off hp
      have hin : MemPlace.cell b off ∈ before := by rw [hps]; simpa using hp
      rw [hb.frozen (hlt _ hin)]
      exact hz b off hin
    · intro ha
      have := hn ha
      rw [hps] at this
      simpa using this
    · intro p hp _
      rw [hps]
      simpa using hp
end
end Go.Proofs.YtfljkcmijnhgkaaDoor

namespace Go.Proofs.YtfljkcmijnhgkaaDoor
open Go Go.ChangeShapes Go.WideShapes Go.ChangeAt Go.WideMaps Go.WideElems Go.RowKit Go.Shelf
theorem own : ownKnob Tryd.prog.godebug = none := by kernel_rfl
theorem door_met (os : Os) (args : Array Value) : laidMetH Tryd.prog [("roundelay/field.joins", Rows.laid_roundelay_field_joins)] ((World.doorLaid Tryd.prog 32 os).forCall (fun _ _ => 0) ⟨#[], args, []⟩).memory :=
  laidMetH_of_parts3 (fuel := 8) (laidMet_of_run' 8 (by kernel_rfl) (by kernel_rfl)) (by kernel_rfl) (by kernel_rfl)
end Go.Proofs.YtfljkcmijnhgkaaDoor
