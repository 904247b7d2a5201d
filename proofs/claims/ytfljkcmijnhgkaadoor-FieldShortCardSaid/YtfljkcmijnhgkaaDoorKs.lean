/- Arguments opened: lists, matrices, rules; the arguments read behind the call as before. -/
import Derived.Test.YtfljkcmijnhgkaaDoorKp
import Derived.Test.YtfljkcmijnhgkaaDoorKg
import Derived.Deep.Matrix
import Derived.Carry
import Derived.SizedLaws
namespace Go.Proofs.YtfljkcmijnhgkaaDoor
open Go Go.ChangeShapes Go.WideShapes Go.ChangeAt Go.WideMaps Go.WideElems Go.RowKit Go.Shelf

theorem laidOut : laidOutB Tryd.prog = true := by kernel_rfl
theorem readI : Tryd.prog.readableRec 23 = true := by kernel_rfl
theorem readM : Tryd.prog.readableRec 22 = true := by kernel_rfl
theorem readR : Tryd.prog.readableRec 49 = true := by kernel_rfl
theorem sizeP : 49 < Tryd.prog.types.size ∧ 23 < Tryd.prog.types.size ∧ 22 < Tryd.prog.types.size := by
  have h : (decide (49 < Tryd.prog.types.size) && (decide (23 < Tryd.prog.types.size) && decide (22 < Tryd.prog.types.size))) = true := by kernel_rfl
  simpa only [Bool.and_eq_true, decide_eq_true_eq] using h
theorem cellsI : Tryd.prog.cellsOf 3 = 1 := by kernel_rfl
theorem cellsL : Tryd.prog.cellsOf 23 = 1 := by kernel_rfl
theorem cellsRu : Tryd.prog.cellsOf 49 = 2 := by kernel_rfl
theorem bytesI : Tryd.prog.bytesOf 3 = 8 := by kernel_rfl
theorem bytesL : Tryd.prog.bytesOf 23 = 24 := by kernel_rfl
theorem weights_all {H : Type} {P : Program} {e : TypeId} : ∀ {l : List (DataW H)} {d : DataW H}, d ∈ l → ∀ n ∈ d.weights P e, n ∈ DataW.weightsAll P e l
  | x :: r, d, hd, n, hn => by
    simp only [DataW.weightsAll, List.mem_append]
    rcases List.mem_cons.1 hd with rfl | hd
    · exact .inl hn
    · exact .inr (weights_all hd n hn)
theorem add_plain (a : Addr) (j : Nat) (h : a.spot = none) : a.add j = ⟨a.block, a.off + j, none⟩ := by
  obtain ⟨b, o, s⟩ := a
  cases h
  unfold Addr.add; split <;> simp_all
section
variable {H : Type} {enc : TypeId × Value → H}
theorem rdI_of_trod {W : World} {fuel : Nat} {v : Value} {x : DataW H × List MemPlace} (h : DataW.trod enc Tryd.prog W 0 (fun _ => true) true fuel 23 [v] = some x) (hw : ∀ n ∈ x.1.weights Tryd.prog 23, n ≤ reachBytes) : ∃ xs, RdI W v xs := by
  rcases open_ints Tryd.underlying23 Tryd.underlying3 cellsI h with ⟨hcs, -⟩ | ⟨a, len, cap, zs, hcs, -, hl, hm, hz, hxe, hcell, -⟩
  · simp only [List.cons.injEq, and_true] at hcs
    subst hcs
    exact ⟨[], none, 0, rfl, Nat.le_refl _, by decide, fun hp => by simp [ints] at hp⟩
  · simp only [List.cons.injEq, and_true] at hcs
    subst hcs
    simp only [if_true] at hz
    have hwt : zs.length * 8 ≤ reachBytes := by
      have := hw ((zs.take len).length * 8 + (zs.drop len).length * 8) (by rw [hxe]; simp [DataW.weights, Tryd.underlying23, bytesI, lits, Nat.add_mul])
      rw [List.length_take, List.length_drop] at this
      omega
    have hrb := reachBytes_lt
    have hlz : (zs.take len).length = len := by rw [List.length_take, hz]; omega
    refine ⟨zs.take len, some a, cap, by rw [ints_len, hlz], by rw [ints_len, hlz]; exact hl, by rw [ints_len, hlz]; omega, fun hp => ?_⟩
    rw [ints_len, hlz] at hp
    have hs : a.spot = none := by
      have := World.cell?_spot (hcell 0 (by omega))
      simpa [Addr.add] using this
    refine ⟨a.block, a.off, by obtain ⟨b, o, s⟩ := a; cases hs; rfl, fun j u hj => ?_⟩
    have hj2 := (List.getElem?_eq_some_iff.1 hj).1
    rw [ints_len, hlz] at hj2
    rw [← add_plain a j hs, hcell j (by omega)]
    rw [ints_get, List.getElem?_take_of_lt hj2, List.getElem?_eq_getElem (by omega)] at hj
    rw [List.getD_eq_getElem?_getD, List.getElem?_eq_getElem (by omega)]
    exact hj
set_option maxRecDepth 100000 in
theorem open_list {W : World} {b0 : Nat} {v : Value} {d : DataW H} {p : List MemPlace} (hval : Value.okWide Tryd.prog W .any b0 23 v) (h : DataW.Trod enc Tryd.prog W 0 (fun _ => true) true 23 v d p) (hw : ∀ n ∈ d.weights Tryd.prog 23, n ≤ reachBytes) : ∃ xs, RdI W v xs := by
  obtain ⟨a, len, cap, rfl⟩ := okWide_slice Tryd.underlying23 hval
  obtain ⟨fuel, hf⟩ := h
  exact rdI_of_trod hf hw
set_option maxRecDepth 100000 in
theorem open_mat {W : World} {b0 : Nat} {v : Value} {d : DataW H} {p : List MemPlace} (hval : Value.okWide Tryd.prog W .any b0 22 v) (h : DataW.Trod enc Tryd.prog W 0 (fun _ => true) true 22 v d p) (hw : ∀ n ∈ d.weights Tryd.prog 22, n ≤ reachBytes) : ∃ rs, RdM W v rs := by
  obtain ⟨a, len, cap, rfl⟩ := okWide_slice Tryd.underlying22 hval
  obtain ⟨fuel, hf⟩ := h
  rcases Deep.open_slice1 Tryd.underlying22 cellsL hf with ⟨hcs, -⟩ | ⟨a, len, cap, m, n, V, D, Pl, hcs, -, hl, hm, hmm, hxe, hx⟩
  · have hcs' : [Value.slice a len cap] = [.slice none 0 0] := hcs
    simp only [List.cons.injEq, and_true] at hcs'
    rw [hcs']
    exact ⟨[], [], ⟨none, 0, rfl, Nat.le_refl _, by decide, fun hp => by simp at hp⟩, rfl, fun j r u hr => by simp at hr⟩
  · rename_i a0 len0 cap0
    have hcs' : [Value.slice a0 len0 cap0] = [.slice (some a) len cap] := hcs
    simp only [List.cons.injEq, and_true] at hcs'
    rw [hcs']
    simp only [if_true] at hmm
    subst hmm
    have hde : d = .slice ((List.range len).map D) ((List.range (m - len)).map fun j => D (len + j)) := congrArg Prod.fst hxe
    have hwt := hw (((List.range len).map D).length * 24 + ((List.range (m - len)).map fun j => D (len + j)).length * 24) (by rw [hde]; simp [DataW.weights, Tryd.underlying22, bytesL, Nat.add_mul])
    have hrb := reachBytes_lt
    simp only [List.length_map, List.length_range] at hwt
    have each : ∀ r, r < len → ∃ y : List Int, RdI W (V r) y := fun r hr => rdI_of_trod (hx r (by omega)).2 (fun n hn => hw n (by
      rw [hde]
      simp only [DataW.weights, Tryd.underlying22, List.mem_cons, List.mem_append]
      exact .inr (.inl (weights_all (List.mem_map.2 ⟨r, by simpa using hr, rfl⟩) n hn))))
    obtain ⟨y, hy⟩ := Deep.choose_lt each
    refine ⟨(List.range len).map y, (List.range len).map V, ⟨some a, m, by simp, by simpa using hl, by simp; omega, fun hp => ?_⟩, by simp, fun j r u hr hu => ?_⟩
    · have hs : a.spot = none := by
        have := World.cell?_spot (hx 0 (by simp at hp; omega)).1
        simpa [Addr.add] using this
      refine ⟨a.block, a.off, by obtain ⟨b, o, s⟩ := a; cases hs; rfl, fun j u hj => ?_⟩
      have hj2 : j < len := by simpa using (List.getElem?_eq_some_iff.1 hj).1
      rw [List.getElem?_map, List.getElem?_range hj2] at hj
      rw [← add_plain a j hs, (hx j (by omega)).1]
      exact hj
    · have hj2 : j < len := by simpa using (List.getElem?_eq_some_iff.1 hr).1
      rw [List.getElem?_map, List.getElem?_range hj2] at hr hu
      simp only [Option.map_some, Option.some.injEq] at hr hu
      subst hr hu
      exact hy j hj2
set_option maxRecDepth 100000 in
theorem open_rule {W : World} {b0 : Nat} {v : Value} {d : DataW H} {p : List MemPlace} (hval : Value.okWide Tryd.prog W .any b0 49 v) (h : DataW.Trod enc Tryd.prog W 0 (fun _ => true) true 49 v d p) (hw : ∀ n ∈ d.weights Tryd.prog 49, n ≤ reachBytes) : ∃ r, RdR W v r := by
  obtain ⟨cs, rfl, -⟩ := okWide_struct Tryd.underlying49 hval
  obtain ⟨fuel, hf⟩ := h
  obtain ⟨y0, y1, n, hxe, hlen, h0, h1⟩ := trod_struct2 Tryd.underlying49 hf
  rw [cellsRu] at hlen
  obtain ⟨l⟩ := cs
  simp only [Value.cells] at hlen h0 h1
  match l, hlen with
  | [a, b], _ =>
    simp only [cellsL, List.drop_zero, List.drop_succ_cons, List.take_succ_cons, List.take_zero] at h0 h1
    have hde : d = .agg [y0.1, y1.1] := congrArg Prod.fst hxe
    obtain ⟨xs, hx⟩ := rdI_of_trod h0 (fun n hn => hw n (by rw [hde]; simp only [DataW.weights, Tryd.underlying49, DataW.weightsEach, List.map_cons, List.mem_append]; exact .inl hn))
    obtain ⟨ys, hy⟩ := rdI_of_trod h1 (fun n hn => hw n (by rw [hde]; simp only [DataW.weights, Tryd.underlying49, DataW.weightsEach, List.map_cons, List.mem_append]; exact .inr (.inl hn)))
    exact ⟨⟨xs, ys⟩, a, b, rfl, hx, hy⟩
/-- An argument reads behind the call as before. -/
theorem stays {t : TypeId} (hr : Tryd.prog.readableRec t = true) (ht : t < Tryd.prog.types.size) {W W' : World} {v : Value} {d : DataW H} {ps : List MemPlace} (h : DataW.Trod enc Tryd.prog W 0 (fun _ => true) true t v d ps) (hb : Below W.heap.size W W') (hlt : ∀ x ∈ ps, x.block < W.heap.size)
    {sp : Nat → Bool} (hs : ∀ x ∈ ps, sp x.block = true) : DataW.Trod enc Tryd.prog W' 0 sp true t v d ps := Trod_stays laidOut hr ht h (fun x hx => hb.same (hlt x hx)) hs
end
end Go.Proofs.YtfljkcmijnhgkaaDoor
