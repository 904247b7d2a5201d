/- Arguments opened: lists, matrices, rules; the arguments read behind the call as before. -/
import Derived.Test.YtfljkcmijnhgkaaDoorKp
import Derived.Test.YtfljkcmijnhgkaaDoorKg
import Derived.Deep.Matrix
import Derived.Carry
import Derived.SizedLaws
namespace Go.Proofs.YtfljkcmijnhgkaaDoor
open Go Go.ChangeShapes Go.WideShapes Go.ChangeAt Go.WideMaps Go.WideElems Go.RowKit Go.Shelf
theorem laidOut : laidOutB Tryd.prog = true := by kernel_rfl
theorem add_plain (a : Addr) (j : Nat) (h : a.spot = none) : a.add j = ⟨a.block, a.off + j, none⟩ := by
  obtain ⟨b, o, s⟩ := a
  cases h
  unfold Addr.add; split <;> simp_all
section
variable {H : Type} {enc : TypeId × Value → H}
/-- An argument reads behind the call as before. -/
theorem stays {t : TypeId} (hr : Tryd.prog.readableRec t = true) (ht : t < Tryd.prog.types.size) {W W' : World} {v : Value} {d : DataW H} {ps : List MemPlace} (h : DataW.Trod enc Tryd.prog W 0 (fun _ => true) true t v d ps) (hb : Below W.heap.size W W') (hlt : ∀ x ∈ ps, x.block < W.heap.size)
    {sp : Nat → Bool} (hs : ∀ x ∈ ps, sp x.block = true) : DataW.Trod enc Tryd.prog W' 0 sp true t v d ps := Trod_stays laidOut hr ht h (fun x hx => hb.same (hlt x hx)) hs
end
end Go.Proofs.YtfljkcmijnhgkaaDoor
