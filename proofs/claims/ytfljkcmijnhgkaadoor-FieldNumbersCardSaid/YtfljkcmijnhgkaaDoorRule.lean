/- Rules: companion, from: their contracts. -/
import Derived.Test.YtfljkcmijnhgkaaDoorProd
import Derived.Test.YtfljkcmijnhgkaaDoorNum
namespace Go.Proofs.YtfljkcmijnhgkaaDoor
open Go.RowKit Go.Shelf

/-- A rule: By and Start. -/
structure Rule where
  by_ : List Int
  start : List Int
/-- THE VALUE v READS AS THE RULE r. -/
def RdR (w : World) (v : Value) (r : Rule) : Prop := ∃ a b, v = .agg #[a, b] ∧ RdI w a r.by_ ∧ RdI w b r.start
def compE (bs : List Int) (i k : Nat) : Int := if i = 0 then bs.getD k 0 else if k + 1 = i then 1 else 0
def compM (bs : List Int) : List (List Int) := mat (compE bs) bs.length bs.length
theorem RdR.below {B : Nat} {w w' : World} {v : Value} {r : Rule} (h : RdR w v r) (hB : Below B w w') (hl : w.heap.size ≤ B) : RdR w' v r := by
  obtain ⟨a, b, rfl, h1, h2⟩ := h
  exact ⟨a, b, rfl, h1.below hB hl, h2.below hB hl⟩
theorem companion_1 (bs : List Int) (g : Nat) (a b : Value) (i k : Nat) (w : World) (hl : bs.length ≤ 1000) (hi : i < bs.length) (hk : k < bs.length)
    (ra : RdI w a bs) (hg : w.heap[g]? = some (.cells #[a, b] 49 (0, 0))) :
    Calls Tryd.prog 151 (#[.int .i64 i, .int .i64 k] ++ #[.pointer (some ⟨g, 0, none⟩)]) w fun e w' => e = .returned (.int .i64 (compE bs i k)) ∧ w = w' := by
  obtain ⟨A, c, rfl, h1, h2, h3⟩ := ra.open_
  obtain ⟨b0, off, rfl, hc⟩ := h3 k hk
  have hc0 : w.cell? ⟨g, 0, none⟩ = some (.slice (some ⟨b0, off, none⟩) bs.length c) := by simp [World.cell?, hg]
  clear h3 ra hg
  have hE : Hid (compE bs i k = if i = 0 then bs.getD k 0 else if k + 1 = i then 1 else 0) := Lib.hid rfl
  generalize bs.getD k 0 = x at *
  generalize bs.length = n at *
  have k1 : (k : Int) < (n : Int) := by omega
  have k0 : (0 : Int) ≤ (k : Int) := by omega
  by_cases h0 : i = 0
  · subst h0
    have hr : Hid (compE bs 0 k = x) := Lib.hid (by rw [hE.out, if_pos rfl])
    go_enter Tryd.func151, Tryd.ntmps151
    go_wp2
    go_ret
    exact ⟨by rw [hr.out]; rfl, rfl⟩
  · have hne : ((i : Int) == 0) = false := by rw [beq_eq_false_iff_ne]; omega
    by_cases h4 : k + 1 = i
    · subst h4
      have hr : Hid (compE bs (k + 1) k = 1) := Lib.hid (by rw [hE.out, if_neg (by omega), if_pos rfl])
      go_enter Tryd.func151, Tryd.ntmps151
      go_wp2
      go_ret
      exact ⟨by rw [hr.out]; rfl, rfl⟩
    · have hr : Hid (compE bs i k = 0) := Lib.hid (by rw [hE.out, if_neg h0, if_neg h4])
      have hw : IntKind.i64.wrap ((i : Int) - 1) = (i : Int) - 1 := IntWalk.i64_in _ ⟨by omega, by omega⟩
      have hne2 : ((k : Int) == (i : Int) - 1) = false := by rw [beq_eq_false_iff_ne]; omega
      go_enter Tryd.func151, Tryd.ntmps151
      go_wp2
      go_ret
      exact ⟨by rw [hr.out]; rfl, rfl⟩
theorem compE_bd {bs : List Int} (hb : ∀ x ∈ bs, 0 ≤ x ∧ x < 65521) (i k : Nat) : 0 ≤ compE bs i k ∧ compE bs i k < 65521 := by
  unfold compE
  split
  · by_cases h : k < bs.length
    · rw [List.getD_eq_getElem?_getD, List.getElem?_eq_getElem h]; exact hb _ (List.getElem_mem h)
    · rw [List.getD_eq_getElem?_getD, List.getElem?_eq_none (by omega)]; decide
  · split <;> decide
theorem okM_comp {bs : List Int} (hb : ∀ x ∈ bs, 0 ≤ x ∧ x < 65521) : okM (compM bs) bs.length bs.length := okM_mat _ _ _ (fun i k _ _ => compE_bd hb i k)
theorem companion_any (r : Rule) (v : Value) (w : World) (hl : r.by_.length ≤ 1000) (h : RdR w v r) :
    Calls Tryd.prog 134 #[v] w fun e w' => (∃ v, e = .returned v ∧ OwnM w' w.heap.size v (compM r.by_)) ∧ Below w.heap.size w w' := by
  obtain ⟨a, b, rfl, ra, -⟩ := h
  obtain ⟨bs, st⟩ := r
  change RdI w a bs at ra
  change bs.length ≤ 1000 at hl
  have hbx : Below w.heap.size w (w.alloc (.cells #[a, b] 49)) := (Below.refl _ _).alloc (Nat.le_refl _) _
  have hg : (w.alloc (.cells #[a, b] 49)).heap[w.heap.size]? = some (.cells #[a, b] 49 (0, 0)) := heap_alloc_new _ _
  have hsz : (w.alloc (.cells #[a, b] 49)).heap.size = w.heap.size + 1 := by simp
  have hc := Lib.hid (made_any (compE bs) bs.length bs.length 151 #[.pointer (some ⟨w.heap.size, 0, none⟩)] (enters_of Tryd.func151 (by kernel_rfl) rfl) (w.alloc (.cells #[a, b] 49)) (by omega) (by omega) (fun W i k hW hi hk =>
    companion_1 bs w.heap.size a b i k W hl hi hk ((ra.below hbx (Nat.le_refl _)).below hW (Nat.le_refl _)) ((hW.block _ (by rw [hsz]; exact Nat.lt_succ_self _)).trans hg)))
  obtain ⟨A, c, rfl, h1, h2, -⟩ := ra.open_
  have hc0 : (w.alloc (.cells #[.slice A bs.length c, b] 49)).cell? ⟨w.heap.size, 0, none⟩ = some (.slice A bs.length c) := by unfold World.cell?; rw [hg]; rfl
  have hM : Hid (compM bs = mat (compE bs) bs.length bs.length) := Lib.hid rfl
  clear ra
  clear hg hsz
  generalize bs.length = n at *
  go_enter Tryd.func134, Tryd.ntmps134
  go_wp2_with (go_at_call 141; refine hc.out.mono ?_; rintro e w' ⟨⟨v, rfl, ho⟩, hb'⟩)
  go_ret
  exact ⟨⟨_, rfl, by rw [hM.out]; exact ho.base hbx.size⟩, Below.then_ hbx hb'⟩
end Go.Proofs.YtfljkcmijnhgkaaDoor
