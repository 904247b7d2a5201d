/- The reference's First and Terms: their contracts. -/
import Derived.Test.YtfljkcmijnhgkaaDoorKu
import Derived.Test.YtfljkcmijnhgkaaDoorKq
import Derived.Test.YtfljkcmijnhgkaaDoorKn
import Derived.Test.YtfljkcmijnhgkaaDoorKg
import Derived.Test.YtfljkcmijnhgkaaDoorKh
import Derived.Test.YtfljkcmijnhgkaaDoorKb
import Derived.Test.YtfljkcmijnhgkaaDoorKf
import Derived.Test.YtfljkcmijnhgkaaDoorKk
import Derived.Test.YtfljkcmijnhgkaaDoorKwa
import Derived.Test.YtfljkcmijnhgkaaDoorKy
import Derived.Test.YtfljkcmijnhgkaaDoorKi
namespace Go.Proofs.YtfljkcmijnhgkaaDoor
open Go.RowKit Go.Shelf
set_option linter.unusedSimpArgs false
theorem own_snoc {w : World} {base L : Nat} {v : Value} {xs : List Int} {x : Int} (hL : xs.length = L) (h : w.ownsRow base 3 1 v (L + 1) (ints xs ++ [.int .i64 x])) : OwnI w base v (xs ++ [x]) := by
  unfold OwnI
  rw [List.length_append, hL, ints_append, List.length_singleton]
  exact h
end Go.Proofs.YtfljkcmijnhgkaaDoor
