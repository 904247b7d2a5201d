/- Solutions and ranks: a system has a solution just if its rank is that of its left side; the one that is found comes first. rule of the law: a rule of numbers drawn. go1 of the law: the first terms of a right rule. -/
import Derived.Test.YtfljkcmijnhgkaaDoorKza
import Derived.Test.YtfljkcmijnhgkaaDoorKwf
import Derived.Test.YtfljkcmijnhgkaaDoorKf
import Derived.Test.YtfljkcmijnhgkaaDoorKg
import Derived.Test.YtfljkcmijnhgkaaDoorKd
import Derived.Test.YtfljkcmijnhgkaaDoorKwb
import Derived.Test.YtfljkcmijnhgkaaDoorKj
namespace Go.Proofs.YtfljkcmijnhgkaaDoor
section
variable {rs : List (List Int)} {b : List Int} {n m : Nat}
theorem pvL_sol (_h : okM rs n m) {x : List Int} (_hx : okL x m) (i : Nat) (hi : i < n) : toF ((pvL rs x n m).getD i 0) = S m (fun k => G rs i k * toF (x.getD k 0)) := by
  rw [pvL, getD_map_range _ _ hi, pvS, toF_emod, toF_psum]
  exact S_congr fun k _ => by rw [toF_emod, toF_mul]; rfl
theorem okL_pv (rs : List (List Int)) (x : List Int) (n m : Nat) : okL (pvL rs x n m) n := ⟨pvL_len rs x n m, fun y hy => by
  obtain ⟨i, _, rfl⟩ := List.mem_map.1 hy
  exact ⟨Int.emod_nonneg _ (by decide), Int.emod_lt_of_pos _ (by decide)⟩⟩
theorem okL.num {x : List Int} {m : Nat} (h : okL x m) (k : Nat) : 0 ≤ x.getD k 0 ∧ x.getD k 0 < 65521 := by
  by_cases hk : k < x.length
  · rw [List.getD_eq_getElem?_getD, List.getElem?_eq_getElem hk]; exact h.2 _ (List.getElem_mem hk)
  · rw [List.getD_eq_getElem?_getD, List.getElem?_eq_none (by omega)]; decide
theorem okL_ext {x y : List Int} {m : Nat} (hx : okL x m) (hy : okL y m) (h : ∀ k, k < m → toF (x.getD k 0) = toF (y.getD k 0)) : x = y :=
  ext_getD (by rw [hx.1, hy.1]) fun k hk => toF_inj (hx.num k) (hy.num k) (h k (by rw [← hx.1]; exact hk))
theorem sol_pv (h : okM rs n m) (hb : okL b n) {x : List Int} (hx : okL x m) : SolL rs b n m (fun k => toF (x.getD k 0)) ↔ pvL rs x n m = b := by
  constructor
  · intro hs
    exact okL_ext (okL_pv rs x n m) hb fun i hi => by rw [pvL_sol h hx i hi]; exact hs i hi
  · intro e i hi
    rw [← e, pvL_sol h hx i hi]
/-- What slices.Compare tells of lists of one length. -/
def CmpR (xs ys : List Int) (c : Int) : Prop :=
  (c = -1 ∧ ∃ j, j < xs.length ∧ (∀ i, i < j → xs.getD i 0 = ys.getD i 0) ∧ xs.getD j 0 < ys.getD j 0) ∨ (c = 0 ∧ xs = ys) ∨ (c = 1 ∧ ∃ j, j < xs.length ∧ (∀ i, i < j → xs.getD i 0 = ys.getD i 0) ∧ ys.getD j 0 < xs.getD j 0)
/-- The solution that is found. -/
theorem sol_found (h : okM rs n m) (hb : okL b n) {y : List Int} (hy : solvedM rs b m = some y) : okL y m ∧ pvL rs y n m = b ∧ ∀ x, okL x m → pvL rs x n m = b → ∀ c, CmpR y x c → c ≤ 0 := by
  obtain ⟨h1, h2, h3⟩ := solvedM_sound h hb.2 hb.1 hy
  refine ⟨⟨h1, h2⟩, (sol_pv h hb ⟨h1, h2⟩).1 h3, fun x hx e c hc => ?_⟩
  rcases hc with ⟨rfl, _⟩ | ⟨rfl, _⟩ | ⟨rfl, j, hj, heq, hlt⟩
  · decide
  · decide
  · have hx' := (sol_pv h hb hx).2 e
    have hyn := okL.num ⟨h1, h2⟩ j
    have hxn := hx.num j
    have := solvedM_first h hb.2 hb.1 hy hx' (j := j) (by omega) (fun k hk => by rw [heq k hk]) (fun e => by have := toF_inj hxn hyn e; omega)
    have := (toF_eq_zero hyn).1 this
    omega
theorem sol_there (h : okM rs n m) (hb : okL b n) {x : List Int} (hx : okL x m) (e : pvL rs x n m = b) : solvedM rs b m ≠ none := by
  rw [solvedM_complete h hb.2 hb.1 ((sol_pv h hb hx).2 e)]; simp
end
end Go.Proofs.YtfljkcmijnhgkaaDoor

namespace Go.Proofs.YtfljkcmijnhgkaaDoor
open Go.RowKit Go.Shelf
set_option linter.unusedSimpArgs false
/-- A rule while it is made. -/
structure RuSt (w wr : World) (g N : Nat) (a0 b0 a b : Value) (xs ys : List Int) : Prop where
  sack : SackAt wr g N
  btw : Btw g (g + 1) w wr
  size : w.heap.size + 2 ≤ wr.heap.size
  box : wr.heap[w.heap.size + 1]? = some (.cells #[a0, b0] 49 (0, 0))
  res : wr.heap[w.heap.size]? = some (.cells #[.slice none 0 0, .slice none 0 0] 49 (0, 0))
  oa : OwnI wr (w.heap.size + 2) a xs
  ob : OwnI wr (w.heap.size + 2) b ys
  ap : ∀ q, a.ownBlock = some q → b.ownBlock ≠ some q
namespace RuSt
variable {w wr w1 : World} {g N : Nat} {a0 b0 a b : Value} {xs ys : List Int}
theorem kept (h : RuSt w wr g N a0 b0 a b xs ys) (_hg : g < w.heap.size) (hb : Below wr.heap.size wr w1) : RuSt w w1 g N a0 b0 a b xs ys :=
  ⟨h.sack.kept hb, h.btw.then_ hb h.btw.size, Nat.le_trans h.size hb.size, (hb.block _ (lt_of_block h.box)).trans h.box, (hb.block _ (lt_of_block h.res)).trans h.res, h.oa.below hb, h.ob.below hb, h.ap⟩
theorem draw (h : RuSt w wr g N a0 b0 a b xs ys) (hg : g < w.heap.size) {N' : Nat} (hS : SackAt w1 g N') (hb : Btw g (g + 1) wr w1) : RuSt w w1 g N' a0 b0 a b xs ys :=
  ⟨hS, h.btw.trans hb, Nat.le_trans h.size hb.size, (hb.block _ (lt_of_block h.box) (by omega)).trans h.box, (hb.block _ (lt_of_block h.res) (by omega)).trans h.res, hb.ownI h.oa (by omega), hb.ownI h.ob (by omega), h.ap⟩
theorem low (h : RuSt w wr g N a0 b0 a b xs ys) (_hg : g < w.heap.size) {row : Option Nat} (hgr : wr.grownBy w1 row) (hr : ∀ q, row = some q → w.heap.size + 2 ≤ q) : Below (w.heap.size + 2) wr w1 := (Below.refl _ _).grown hgr h.size hr
theorem appA (h : RuSt w wr g N a0 b0 a b xs ys) (hg : g < w.heap.size) {gg cap k : Nat} {x : Int} (hl : xs.length = k) (hown : w1.ownsRow (w.heap.size + 2) 3 1 (.slice (some ⟨gg, 0, none⟩) (k + 1) cap) (k + 1) (ints xs ++ [.int .i64 x])) (hgr : wr.grownBy w1 a.ownBlock) (hat : a.ownBlock = some gg ∨ gg = wr.heap.size) :
    RuSt w w1 g N a0 b0 (.slice (some ⟨gg, 0, none⟩) (k + 1) cap) b (xs ++ [x]) ys := by
  have hb := h.low hg hgr (fun q hq => (World.ownsRow.lt h.oa q hq).1)
  refine ⟨h.sack.low hb (by omega), h.btw.then_ hb (by omega), Nat.le_trans h.size hb.size, (hb.block _ (by omega)).trans h.box, (hb.block _ (by omega)).trans h.res, own_snoc hl hown, World.ownsRow.kept h.ob hgr ?_, fun q hq e => ?_⟩
  · cases e : b.ownBlock with
    | none => exact .inl rfl
    | some q => exact .inr (fun e2 => h.ap q e2.symm e)
  · have hq' : gg = q := by simpa [Value.ownBlock] using hq
    rcases hat with h1 | h1
    · exact h.ap q (by rw [h1, hq']) e
    · have := (World.ownsRow.lt h.ob q e).2; omega
theorem appB (h : RuSt w wr g N a0 b0 a b xs ys) (hg : g < w.heap.size) {gg cap k : Nat} {x : Int} (hl : ys.length = k) (hown : w1.ownsRow (w.heap.size + 2) 3 1 (.slice (some ⟨gg, 0, none⟩) (k + 1) cap) (k + 1) (ints ys ++ [.int .i64 x])) (hgr : wr.grownBy w1 b.ownBlock) (hat : b.ownBlock = some gg ∨ gg = wr.heap.size) :
    RuSt w w1 g N a0 b0 a (.slice (some ⟨gg, 0, none⟩) (k + 1) cap) xs (ys ++ [x]) := by
  have hb := h.low hg hgr (fun q hq => (World.ownsRow.lt h.ob q hq).1)
  refine ⟨h.sack.low hb (by omega), h.btw.then_ hb (by omega), Nat.le_trans h.size hb.size, (hb.block _ (by omega)).trans h.box, (hb.block _ (by omega)).trans h.res, World.ownsRow.kept h.oa hgr ?_, own_snoc hl hown, fun q hq e => ?_⟩
  · cases e : a.ownBlock with
    | none => exact .inl rfl
    | some q => exact .inr (fun e2 => h.ap q e e2.symm)
  · have hq' : gg = q := by simpa [Value.ownBlock] using e
    rcases hat with h1 | h1
    · exact h.ap q hq (by rw [h1, hq'])
    · have := (World.ownsRow.lt h.oa q hq).2; omega
theorem cells (h : RuSt w wr g N a0 b0 a b xs ys) : wr.cell? ⟨w.heap.size + 1, 0, none⟩ = some a0 ∧ wr.cell? ⟨w.heap.size + 1, 1, none⟩ = some b0 :=
  ⟨by unfold World.cell?; rw [h.box]; rfl, by unfold World.cell?; rw [h.box]; rfl⟩
theorem froz (h : RuSt w wr g N a0 b0 a b xs ys) : wr.frozen? ⟨w.heap.size + 1, 0, none⟩ = false ∧ wr.frozen? ⟨w.heap.size + 1, 1, none⟩ = false :=
  ⟨by unfold World.frozen?; rw [h.box]; rfl, by unfold World.frozen?; rw [h.box]; rfl⟩
/-- Both are stored into the box. -/
theorem put (h : RuSt w wr g N a0 b0 a b xs ys) (hg : g < w.heap.size) : RuSt w ((wr.setCell ⟨w.heap.size + 1, 0, none⟩ a).setCell ⟨w.heap.size + 1, 1, none⟩ b) g N a b a b xs ys := by
  have hb : Btw (w.heap.size + 1) (w.heap.size + 2) wr ((wr.setCell ⟨w.heap.size + 1, 0, none⟩ a).setCell ⟨w.heap.size + 1, 1, none⟩ b) := (btw_set wr a).trans (btw_set _ b)
  have hbl : Below (w.heap.size + 1) wr ((wr.setCell ⟨w.heap.size + 1, 0, none⟩ a).setCell ⟨w.heap.size + 1, 1, none⟩ b) := hb.below (by have := h.size; omega)
  exact ⟨h.sack.low hbl (by omega), h.btw.then_ hbl (by omega), Nat.le_trans h.size hb.size, heap_set2 _ _ h.box, (hbl.block _ (by omega)).trans h.res, hb.ownI h.oa (Nat.le_refl _), hb.ownI h.ob (Nat.le_refl _), h.ap⟩
end RuSt
/-- One result that lies in a cell. -/
theorem res_c1 {P : Program} {fn : Func} {p : Tmp} {ty : TypeId} (h : fn.results = #[.cell p ty]) (tmps : Array Value) (w : World) (g : Nat) (t : TypeId) (cs : Array Value) (fr : Nat × Nat) (d : TypeDesc)
    (hp : tmps.getD p undef = .pointer (some ⟨g, 0, none⟩)) (hg : w.heap[g]? = some (.cells cs t fr))
    (hu : P.underlying ty = some d) (hd : (match d with | .struct _ | .array _ _ => true | _ => false) = true) (hi : (P.info? ty).map (·.size) = some cs.size) :
    (results fn tmps).run P w = .ok (.agg cs) w := by
  have hp' : tmps[p]?.getD undef = .pointer (some ⟨g, 0, none⟩) := by simpa using hp
  simp [results, h, hp', asAddr, run_loadVar_row w g t ty cs fr d hg hu hd hi]
set_option maxRecDepth 100000 in
set_option maxHeartbeats 6400000 in
theorem rule_any (g N n : Nat) (w : World) (h : SackAt w g N) (hN : N ≤ 900000) (hn : n ≤ 12) :
    Calls Tryd.prog 56 #[.pointer (some ⟨g, 0, none⟩), .int .i64 n] w fun e w' => (∃ a b xs ys, e = .returned (.agg #[a, b]) ∧ okL xs n ∧ okL ys n ∧ OwnI w' w.heap.size a xs ∧ OwnI w' w.heap.size b ys ∧ ∀ q, a.ownBlock = some q → b.ownBlock ≠ some q) ∧ SackAt w' g (N + 60) ∧ Btw g (g + 1) w w' := by
  obtain ⟨iI, hiI, hI0, hI1, hI2⟩ := info_parts infoI
  have hg := h.lt
  have hbx : Below w.heap.size w ((w.alloc (.cells #[.slice none 0 0, .slice none 0 0] 49)).alloc (.cells #[.slice none 0 0, .slice none 0 0] 49)) := ((Below.refl _ _).alloc (Nat.le_refl _) _).alloc (by simp) _
  have hgb : ((w.alloc (.cells #[.slice none 0 0, .slice none 0 0] 49)).alloc (.cells #[.slice none 0 0, .slice none 0 0] 49)).heap[w.heap.size + 1]? = some (.cells #[.slice none 0 0, .slice none 0 0] 49 (0, 0)) := by
    have h := heap_alloc_new (w.alloc (.cells #[.slice none 0 0, .slice none 0 0] 49)) (.cells #[.slice none 0 0, .slice none 0 0] 49); rwa [World.size_alloc] at h
  have hga : ((w.alloc (.cells #[.slice none 0 0, .slice none 0 0] 49)).alloc (.cells #[.slice none 0 0, .slice none 0 0] 49)).heap[w.heap.size]? = some (.cells #[.slice none 0 0, .slice none 0 0] 49 (0, 0)) := by
    rw [((Below.refl _ (w.alloc (.cells #[.slice none 0 0, .slice none 0 0] 49))).alloc (Nat.le_refl _) _).block w.heap.size (by simp)]; exact heap_alloc_new _ _
  have hst : Hid (RuSt w ((w.alloc (.cells #[.slice none 0 0, .slice none 0 0] 49)).alloc (.cells #[.slice none 0 0, .slice none 0 0] 49)) g N (.slice none 0 0) (.slice none 0 0) (.slice none 0 0) (.slice none 0 0) [] []) := Lib.hid
    ⟨h.kept hbx, Btw.of_below hbx, by simp, hgb, hga, OwnI_nil _ _, OwnI_nil _ _, fun q hq => by simp [Value.ownBlock] at hq⟩
  clear hbx hgb hga h
  go_enter Tryd.func56, Tryd.ntmps56
  go_wp2
  generalize (w.alloc (.cells #[.slice none 0 0, .slice none 0 0] 49)).alloc (.cells #[.slice none 0 0, .slice none 0 0] 49) = X at hst ⊢
  go_loopw [7] (fun ii wr => ∃ (k : Nat) (a b : Value) (xs ys : List Int), k ≤ n ∧ ii = .int .i64 k ∧ Hid (RuSt w wr g (N + 4 * k) a b a b xs ys) ∧ Hid (okL xs k ∧ okL ys k)) (fun ii _ => n - (intOf ii).toNat)
  case atStart => exact ⟨0, _, _, [], [], Nat.zero_le _, rfl, hst, Lib.hid ⟨⟨rfl, fun x hx => by cases hx⟩, ⟨rfl, fun x hx => by cases hx⟩⟩⟩
  case round =>
    obtain ⟨k, a, b, xs, ys, hk, rfl, hS, hok⟩ := hrel
    rename World => wr
    by_cases hlt : k < n
    · have k1 : (k : Int) < (n : Int) := by omega
      have k0 : (0 : Int) ≤ (k : Int) := by omega
      obtain ⟨okx, oky⟩ := hok.out
      obtain ⟨A1, c1, rfl⟩ := own_shape hS.out.oa
      obtain ⟨B1, d1, rfl⟩ := own_shape hS.out.ob
      rw [okx.1, oky.1] at hS
      replace okx := Lib.hid okx
      replace oky := Lib.hid oky
      have hSd := Lib.hid (hS.out.kept hg ((Below.refl wr.heap.size wr).drew))
      have HT := hSd.out.cells
      clear hok
      go_wp2
      refine D_begin (fun _ => True) (fun w' => w'.cell? ⟨w.heap.size + 1, 0, none⟩ = some (.slice A1 k c1) ∧ w'.cell? ⟨w.heap.size + 1, 1, none⟩ = some (.slice B1 k d1)) 13 (by kernel_rfl) ?_
      change wpAnyD _ _ _ _ _ _ _ _ _ _ wr.drew
      simp only [List.size_toArray, List.length_cons, List.length_nil, Nat.reduceAdd, Array.replicate_succ, Array.replicate_zero, List.push_toArray, List.append_toArray, List.nil_append, List.cons_append]
      refine D_take (i := 0) (v := ?_) rfl (by kernel_rfl) (by kernel_rfl) (by kernel_rfl) (by kernel_rfl) (fun _ _ _ h => h) (Or.inl ⟨by rfl, ?_⟩) trivial (fun _ => HT) ?_
      rotate_left; · intro w1 hw1; go_simp; try with_reducible rfl
      try simp only [Act.put, List.getElem_toArray, List.getElem_cons_zero, List.getElem_cons_succ, List.setIfInBounds_toArray, List.set_cons_zero, List.set_cons_succ]
      refine D_take (i := 2) (v := ?_) rfl (by kernel_rfl) (by kernel_rfl) (by kernel_rfl) (by kernel_rfl) (fun _ _ _ h => h) (Or.inl ⟨by rfl, ?_⟩) trivial (fun _ => HT) ?_
      rotate_left; · intro w1 hw1; go_simp; try with_reducible rfl
      try simp only [Act.put, List.getElem_toArray, List.getElem_cons_zero, List.getElem_cons_succ, List.setIfInBounds_toArray, List.set_cons_zero, List.set_cons_succ]
      refine D_take (i := 6) (v := ?_) rfl (by kernel_rfl) (by kernel_rfl) (by kernel_rfl) (by kernel_rfl) (fun _ _ _ h => h) (Or.inl ⟨by rfl, ?_⟩) trivial (fun _ => HT) ?_
      rotate_left; · intro w1 hw1; go_simp; try with_reducible rfl
      try simp only [Act.put, List.getElem_toArray, List.getElem_cons_zero, List.getElem_cons_succ, List.setIfInBounds_toArray, List.set_cons_zero, List.set_cons_succ]
      refine D_take (i := 8) (v := ?_) rfl (by kernel_rfl) (by kernel_rfl) (by kernel_rfl) (by kernel_rfl) (fun _ _ _ h => h) (Or.inl ⟨by rfl, ?_⟩) trivial (fun _ => HT) ?_
      rotate_left; · intro w1 hw1; go_simp; try with_reducible rfl
      try simp only [Act.put, List.getElem_toArray, List.getElem_cons_zero, List.getElem_cons_succ, List.setIfInBounds_toArray, List.set_cons_zero, List.set_cons_succ]
      refine D_load (i := 1) (v := ?_) rfl (by kernel_rfl) (by kernel_rfl) (by kernel_rfl) (by kernel_rfl) (by kernel_rfl) (by kernel_rfl) (fun _ _ _ h => h) (Or.inl ⟨by rfl, ?_⟩) trivial HT ?_
      rotate_left; · intro w1 hw1; obtain ⟨-, hw1, hw2⟩ := hw1; go_simp; try with_reducible rfl
      try simp only [Act.put, List.getElem_toArray, List.getElem_cons_zero, List.getElem_cons_succ, List.setIfInBounds_toArray, List.set_cons_zero, List.set_cons_succ]
      refine D_load (i := 7) (v := ?_) rfl (by kernel_rfl) (by kernel_rfl) (by kernel_rfl) (by kernel_rfl) (by kernel_rfl) (by kernel_rfl) (fun _ _ _ h => h) (Or.inl ⟨by rfl, ?_⟩) trivial HT ?_
      rotate_left; · intro w1 hw1; obtain ⟨-, hw1, hw2⟩ := hw1; go_simp; try with_reducible rfl
      try simp only [Act.put, List.getElem_toArray, List.getElem_cons_zero, List.getElem_cons_succ, List.setIfInBounds_toArray, List.set_cons_zero, List.set_cons_succ]
      clear HT
      generalize wr.drew = Wd at hSd ⊢
      clear hS
      have hd := Lib.hid (draws_any g _ Wd hSd.out.sack (by omega))
      refine D_one (i := 3) (by kernel_rfl) rfl ?_
      intro K hK
      rw [if_pos (by rfl)]
      go_wp2_with fail
      refine hd.out.mono ?_; rintro e W1 ⟨⟨x, rfl, hx0, hx1⟩, hS1, hB1⟩
      have s_W1 := Lib.hid (hSd.out.draw hg hS1 hB1)
      clear hS1 hB1 hd hSd
      refine hK _ _ trivial (fun _ _ => s_W1.out.cells) ?_
      try simp only [Act.put, List.getElem_toArray, List.getElem_cons_zero, List.getElem_cons_succ, List.setIfInBounds_toArray, List.set_cons_zero, List.set_cons_succ]
      clear hK K
      refine D_one (i := 4) (by kernel_rfl) rfl ?_
      intro K hK
      rw [if_pos (by rfl)]
      go_simp
      have s_W2 := Lib.hid (s_W1.out.kept hg ((Below.refl W1.heap.size W1).alloc (Nat.le_refl _) (.cells #[.int .i64 x] 3)))
      have n_W2 := Lib.hid (cell_one_new W1 (.int .i64 x) 3)
      have l_W2 : W1.heap.size < (W1.alloc (.cells #[.int .i64 x] 3)).heap.size := by simp
      refine hK _ _ trivial (fun _ _ => s_W2.out.cells) ?_
      try simp only [Act.put, List.getElem_toArray, List.getElem_cons_zero, List.getElem_cons_succ, List.setIfInBounds_toArray, List.set_cons_zero, List.set_cons_succ]
      clear hK K s_W1
      generalize W1.alloc (.cells #[.int .i64 x] 3) = W2 at s_W2 n_W2 l_W2 ⊢
      refine D_one (i := 5) (by kernel_rfl) rfl ?_
      intro K hK
      refine step_append_lies _ (by rfl) _ _ _ (by rfl) (w.heap.size + 2) 3 iI _ 1 8 Tryd.underlying23 hiI hI0 hI1 hI2 rfl (by omega) (.slice A1 k c1) k (ints xs) (by rfl) (by have := s_W2.out.oa; unfold OwnI at this; rwa [okx.out.1] at this) ⟨W1.heap.size, 0, none⟩ 1 1 [.int .i64 x] (by rfl) (by rfl) n_W2.out (by simp [Value.oneCell']) (by omega) (by unfold maxLen; omega) (by omega) s_W2.out.size W2.heap.size rfl ?_
      intro goa capoa W3 hown hgrow hat hlt1
      have s_W3 := Lib.hid (s_W2.out.appA hg okx.out.1 hown hgrow hat)
      clear hown hgrow hat hlt1 s_W2 n_W2
      refine hK _ _ trivial (fun _ _ => s_W3.out.cells) ?_
      try simp only [Act.put, List.getElem_toArray, List.getElem_cons_zero, List.getElem_cons_succ, List.setIfInBounds_toArray, List.set_cons_zero, List.set_cons_succ]
      clear hK K
      have HT3 := s_W3.out.cells
      refine D_take (i := 12) (v := ?_) rfl (by kernel_rfl) (by kernel_rfl) (by kernel_rfl) (by kernel_rfl) (fun _ _ _ h => h) (Or.inl ⟨by rfl, ?_⟩) trivial (fun _ => HT3) ?_
      rotate_left; · intro w1 hw1; go_simp; try with_reducible rfl
      try simp only [Act.put, List.getElem_toArray, List.getElem_cons_zero, List.getElem_cons_succ, List.setIfInBounds_toArray, List.set_cons_zero, List.set_cons_succ]
      clear HT3
      have hd := Lib.hid (draws_any g _ W3 s_W3.out.sack (by omega))
      refine D_one (i := 9) (by kernel_rfl) rfl ?_
      intro K hK
      rw [if_pos (by rfl)]
      go_wp2_with fail
      refine hd.out.mono ?_; rintro e W4 ⟨⟨y, rfl, hy0, hy1⟩, hS1, hB1⟩
      have s_W4 := Lib.hid (s_W3.out.draw hg hS1 hB1)
      clear hS1 hB1 hd s_W3
      refine hK _ _ trivial (fun _ _ => s_W4.out.cells) ?_
      try simp only [Act.put, List.getElem_toArray, List.getElem_cons_zero, List.getElem_cons_succ, List.setIfInBounds_toArray, List.set_cons_zero, List.set_cons_succ]
      clear hK K
      refine D_one (i := 10) (by kernel_rfl) rfl ?_
      intro K hK
      rw [if_pos (by rfl)]
      go_simp
      have s_W5 := Lib.hid (s_W4.out.kept hg ((Below.refl W4.heap.size W4).alloc (Nat.le_refl _) (.cells #[.int .i64 y] 3)))
      have n_W5 := Lib.hid (cell_one_new W4 (.int .i64 y) 3)
      refine hK _ _ trivial (fun _ _ => s_W5.out.cells) ?_
      try simp only [Act.put, List.getElem_toArray, List.getElem_cons_zero, List.getElem_cons_succ, List.setIfInBounds_toArray, List.set_cons_zero, List.set_cons_succ]
      clear hK K s_W4
      generalize W4.alloc (.cells #[.int .i64 y] 3) = W5 at s_W5 n_W5 ⊢
      refine D_one (i := 11) (by kernel_rfl) rfl ?_
      intro K hK
      refine step_append_lies _ (by rfl) _ _ _ (by rfl) (w.heap.size + 2) 3 iI _ 1 8 Tryd.underlying23 hiI hI0 hI1 hI2 rfl (by omega) (.slice B1 k d1) k (ints ys) (by rfl) (by have := s_W5.out.ob; unfold OwnI at this; rwa [oky.out.1] at this) ⟨W4.heap.size, 0, none⟩ 1 1 [.int .i64 y] (by rfl) (by rfl) n_W5.out (by simp [Value.oneCell']) (by omega) (by unfold maxLen; omega) (by omega) s_W5.out.size W5.heap.size rfl ?_
      intro goa capoa W6 hown hgrow hat hlt1
      have s_W6 := Lib.hid (s_W5.out.appB hg oky.out.1 hown hgrow hat)
      clear hown hgrow hat hlt1 s_W5 n_W5
      refine hK _ _ trivial (fun _ _ => s_W6.out.cells) ?_
      try simp only [Act.put, List.getElem_toArray, List.getElem_cons_zero, List.getElem_cons_succ, List.setIfInBounds_toArray, List.set_cons_zero, List.set_cons_succ]
      clear hK K
      have hf := s_W6.out.froz
      have hc := s_W6.out.cells
      have hfin := Lib.hid (s_W6.out.put hg)
      obtain ⟨hc0, hc1⟩ := hc
      obtain ⟨hf0, hf1⟩ := hf
      refine D_one (i := 13) (by kernel_rfl) rfl ?_
      intro K hK
      rw [if_pos (by rfl)]
      go_simp
      refine hK _ _ trivial (fun h _ => absurd rfl h) ?_
      try simp only [Act.put, List.getElem_toArray, List.getElem_cons_zero, List.getElem_cons_succ, List.setIfInBounds_toArray, List.set_cons_zero, List.set_cons_succ]
      clear hK K
      refine D_one (i := 14) (by kernel_rfl) rfl ?_
      intro K hK
      rw [if_pos (by rfl)]
      go_simp
      refine hK _ _ trivial (fun _ h => by simp at h) ?_
      try simp only [Act.put, List.getElem_toArray, List.getElem_cons_zero, List.getElem_cons_succ, List.setIfInBounds_toArray, List.set_cons_zero, List.set_cons_succ]
      clear hK K
      refine D_one (i := 15) (by kernel_rfl) rfl ?_
      intro K hK
      rw [if_pos (by rfl)]
      go_simp
      refine hK _ _ trivial (fun _ h => by simp at h) ?_
      try simp only [Act.put, List.getElem_toArray, List.getElem_cons_zero, List.getElem_cons_succ, List.setIfInBounds_toArray, List.set_cons_zero, List.set_cons_succ]
      clear hK K
      refine D_done (by kernel_rfl) ?_ _
      go_wp2
      go_roundw
      case rel => exact ⟨k + 1, _, _, _, _, by omega, by go_num, by
        rw [show N + 4 * (k + 1) = N + 4 * k + 2 + 2 by omega]; exact hfin, Lib.hid ⟨okx.out.snoc ⟨hx0, hx1⟩, oky.out.snoc ⟨hy0, hy1⟩⟩⟩
      case measure => simp [intOf]; omega
    · obtain rfl : k = n := by omega
      have hc := hS.out.cells
      obtain ⟨okx, oky⟩ := hok.out
      have hres := hS.out.res
      obtain ⟨hc0, hc1⟩ := hc
      have e0 : wr.cell? ⟨w.heap.size, 0, none⟩ = some (.slice none 0 0) := by unfold World.cell?; rw [hres]; rfl
      have e1 : wr.cell? ⟨w.heap.size, 1, none⟩ = some (.slice none 0 0) := by unfold World.cell?; rw [hres]; rfl
      have e2 : wr.frozen? ⟨w.heap.size, 0, none⟩ = false := by unfold World.frozen?; rw [hres]; rfl
      have e3 : wr.frozen? ⟨w.heap.size, 1, none⟩ = false := by unfold World.frozen?; rw [hres]; rfl
      obtain ⟨A1, c1, rfl⟩ := own_shape hS.out.oa
      obtain ⟨B1, d1, rfl⟩ := own_shape hS.out.ob
      have hbt : Btw w.heap.size (w.heap.size + 1) wr ((wr.setCell ⟨w.heap.size, 0, none⟩ (.slice A1 xs.length c1)).setCell ⟨w.heap.size, 1, none⟩ (.slice B1 ys.length d1)) := (btw_set wr _).trans (btw_set _ _)
      have hbl : Below w.heap.size wr ((wr.setCell ⟨w.heap.size, 0, none⟩ (.slice A1 xs.length c1)).setCell ⟨w.heap.size, 1, none⟩ (.slice B1 ys.length d1)) := hbt.below (by have := hS.out.size; omega)
      have hg2 := Lib.hid (heap_set2 (.slice A1 xs.length c1) (.slice B1 ys.length d1) hres)
      have ox := Lib.hid ((hbt.ownI hS.out.oa (by omega)).base (show w.heap.size ≤ w.heap.size + 2 by omega))
      have oy := Lib.hid ((hbt.ownI hS.out.ob (by omega)).base (show w.heap.size ≤ w.heap.size + 2 by omega))
      have hap := Lib.hid hS.out.ap
      have hsk := Lib.hid ((hS.out.sack.low hbl hg).mono (show N + 4 * k ≤ N + 60 by omega))
      have hBt := Lib.hid (hS.out.btw.then_ hbl (Nat.le_refl _))
      clear hbt hbl hres hS hok
      replace okx := Lib.hid okx
      replace oky := Lib.hid oky
      go_wp2
      refine bodyPost_ret (res_c1 rfl _ _ w.heap.size 49 #[.slice A1 xs.length c1, .slice B1 ys.length d1] (0, 0) _ rfl hg2.out rfl rfl rfl) rfl ?_
      exact ⟨⟨_, _, _, _, rfl, okx.out, oky.out, ox.out, oy.out, hap.out⟩, hsk.out, hBt.out⟩
end Go.Proofs.YtfljkcmijnhgkaaDoor

namespace Go.Proofs.YtfljkcmijnhgkaaDoor
open Go.RowKit Go.Shelf
set_option linter.unusedSimpArgs false
theorem firstL_start (r : Rule) : ∀ k, k ≤ r.start.length → firstL r k = r.start.take k
  | 0, _ => by rw [List.take_zero]; rfl
  | k + 1, h => by
    show firstL r k ++ [if k < r.start.length then r.start.getD k 0 else nextT r.by_ (firstL r k)] = _
    rw [firstL_start r k (by omega), if_pos (by omega), List.take_succ_eq_append_getElem (by omega), List.getD_eq_getElem?_getD, List.getElem?_eq_getElem (by omega)]; rfl
theorem firstL_take (r : Rule) {n : Nat} : ∀ {k : Nat}, n ≤ k → (firstL r k).take n = firstL r n
  | 0, h => by
    obtain rfl : n = 0 := by omega
    rfl
  | k + 1, h => by
    by_cases e : n = k + 1
    · subst e; exact List.take_of_length_le (by rw [firstL_len]; exact Nat.le_refl _)
    · show (firstL r k ++ _).take n = _
      rw [List.take_append_of_le_length (by rw [firstL_len]; omega)]
      exact firstL_take r (by omega)
/-- A slice that lies in new memory. -/
def AboveS (lo : Nat) (u : Value) : Prop := ∀ A l c, u = .slice (some A) l c → lo ≤ A.block
def slLen : Value → Nat
  | .slice _ n _ => n
  | _ => 0
set_option maxRecDepth 100000 in
set_option maxHeartbeats 6400000 in
theorem go1_low (r : Rule) (n : Nat) (v : Value) (w : World) (h : RdR w v r) (hl : r.by_.length ≤ r.start.length) (hl2 : r.start.length ≤ 1000) (hbb : ∀ x ∈ r.by_, 0 ≤ x ∧ x < 65521) (hbs : ∀ x ∈ r.start, 0 ≤ x ∧ x < 65521) (hn : n ≤ 10000) :
    Calls Tryd.prog 58 #[v, .int .i64 n] w fun e w' => (∃ u, e = .returned u ∧ RdI w' u (firstL r n) ∧ AboveS w.heap.size u) ∧ Below w.heap.size w w' := by
  obtain ⟨i0, hi, hz0, hz1, hz2⟩ := info_parts infoI
  obtain ⟨a, b, rfl, ra, rb⟩ := h
  obtain ⟨A, c, rfl, h1, h2, h3⟩ := ra.open_
  obtain ⟨B, d, rfl, g1, g2, -⟩ := rb.open_
  have hbx : Below w.heap.size w (w.alloc (.cells #[.slice A r.by_.length c, .slice B r.start.length d] 49)) := (Below.refl _ _).alloc (Nat.le_refl _) _
  have hg : (w.alloc (.cells #[.slice A r.by_.length c, .slice B r.start.length d] 49)).heap[w.heap.size]? = some (.cells #[.slice A r.by_.length c, .slice B r.start.length d] 49 (0, 0)) := heap_alloc_new _ _
  have hsz : (w.alloc (.cells #[.slice A r.by_.length c, .slice B r.start.length d] 49)).heap.size = w.heap.size + 1 := by simp
  have hc0 : (w.alloc (.cells #[.slice A r.by_.length c, .slice B r.start.length d] 49)).cell? ⟨w.heap.size, 0, none⟩ = some (.slice A r.by_.length c) := by unfold World.cell?; rw [hg]; rfl
  have hc1 : (w.alloc (.cells #[.slice A r.by_.length c, .slice B r.start.length d] 49)).cell? ⟨w.heap.size, 1, none⟩ = some (.slice B r.start.length d) := by unfold World.cell?; rw [hg]; rfl
  have hbB : Hid (∀ k, 0 ≤ r.by_.getD k 0 ∧ r.by_.getD k 0 < 65521) := Lib.hid (fun k => by
    by_cases hk : k < r.by_.length
    · rw [List.getD_eq_getElem?_getD, List.getElem?_eq_getElem hk]; exact hbb _ (List.getElem_mem hk)
    · rw [List.getD_eq_getElem?_getD, List.getElem?_eq_none (by omega)]; decide)
  have hfb : Hid (∀ k j, 0 ≤ (firstL r k).getD j 0 ∧ (firstL r k).getD j 0 < 65521) := Lib.hid (fun k j => by
    by_cases hk : j < (firstL r k).length
    · rw [List.getD_eq_getElem?_getD, List.getElem?_eq_getElem hk]; exact firstL_bd hbs k _ (List.getElem_mem hk)
    · rw [List.getD_eq_getElem?_getD, List.getElem?_eq_none (by omega)]; decide)
  have hst := firstL_start r r.start.length (Nat.le_refl _)
  rw [List.take_length] at hst
  have hcl := Lib.hid (Clone_any r.start _ _ (rb.below hbx (Nat.le_refl _)) (by omega))
  have hnx : Hid (∀ k, r.start.length ≤ k → firstL r (k + 1) = firstL r k ++ [nextT r.by_ (firstL r k)]) := Lib.hid (fun k hk => by
    show firstL r k ++ [if k < r.start.length then _ else _] = _
    rw [if_neg (by omega)])
  have hra := Lib.hid (fun W (hW : Below (w.heap.size + 1) (w.alloc (.cells #[.slice A r.by_.length c, .slice B r.start.length d] 49)) W) => hbx.trans (hW.mono (by omega)))
  replace h3 := Lib.hid h3
  replace hbx := Lib.hid hbx
  replace hst := Lib.hid hst
  clear ra rb hbb hbs hg
  generalize hN : r.by_.length = N at *
  generalize hM : r.start.length = M at *
  replace hN := Lib.hid hN
  replace hM := Lib.hid hM
  go_enter Tryd.func58, Tryd.ntmps58
  go_wp2_with fail
  generalize w.alloc (.cells #[.slice A N c, .slice B M d] 49) = X at *
  refine hcl.out.mono ?_; rintro e W0 ⟨⟨v0, rfl, ho⟩, hB0⟩
  rw [← hst.out] at ho
  replace ho := Lib.hid ho
  replace hB0 := Lib.hid hB0
  replace hsz := Lib.hid hsz
  clear hcl
  go_wp2
  go_loopw [5, 6, 7, 8, 19] (fun o _ _ _ _ wr => ∃ k : Nat, M ≤ k ∧ (k ≤ M ∨ k ≤ n) ∧ Hid (Below X.heap.size X wr) ∧ Hid (OwnI wr X.heap.size o (firstL r k)) ∧ slLen o = k) (fun o _ _ _ _ _ => n - slLen o)
  case atStart =>
    obtain ⟨A1, c1, e⟩ := own_shape ho.out
    exact ⟨M, Nat.le_refl _, .inl (Nat.le_refl _), hB0, ho, by rw [e, firstL_len]; rfl⟩
  case round =>
    obtain ⟨k, hk, hkn, hB, hO, hlen⟩ := hrel
    rename World => wr
    have hfl : Hid ((firstL r k).length = k) := Lib.hid (firstL_len r k)
    obtain ⟨Ao, co, rfl⟩ := own_shape hO.out
    rw [hfl.out] at hO hlen ⊢
    clear hlen
    have hx0 := (hB.out.cell (World.block_lt_of_cell? X _ hc0)).trans hc0
    have hBs := hB.out.size
    by_cases hlt : k < n
    · have k1 : (k : Int) < (n : Int) := by omega
      have hst := Lib.hid (hnx.out k hk)
      go_wp2
      obtain ⟨wo, rfl⟩ : ∃ wo : World, wo = wr := ⟨_, rfl⟩
      clear hx0
      go_loopw [6, 7, 8, 19] (fun s _ _ ii wr => ∃ q : Nat, q ≤ N ∧ ii = .int .i64 q ∧ s = .int .i64 (psum (fun j => r.by_.getD j 0 * (firstL r k).getD (k - 1 - j) 0 % 65521) q % 65521) ∧ Hid (Below X.heap.size X wr) ∧ Hid (OwnI wr X.heap.size (.slice Ao k co) (firstL r k))) (fun _ _ _ ii _ => N - (intOf ii).toNat)
      case atStart => exact ⟨0, Nat.zero_le _, rfl, rfl, hB, hO⟩
      case round =>
        obtain ⟨q, hq, rfl, rfl, hB, hO⟩ := hrel
        rename World => wr2
        by_cases hqN : q < N
        · obtain ⟨ba, offa, rfl, hca⟩ := h3.out q hqN
          have hca2 := (hB.out.cell (p := ⟨ba, offa + q, none⟩) (by have := World.block_lt_of_cell? w _ hca; have := hsz.out; show ba < _; simp at *; omega)).trans ((hbx.out.cell (World.block_lt_of_cell? w _ hca)).trans hca)
          have hre := hO.out.rd (by rw [hfl.out]; omega)
          obtain ⟨Ar, cr, er, -, -, hcl⟩ := hre.open_
          rw [hfl.out] at er hcl
          simp only [Value.slice.injEq, true_and] at er
          obtain ⟨rfl, rfl⟩ := er
          obtain ⟨p, hp⟩ : ∃ p, p = k - 1 - q := ⟨_, rfl⟩
          obtain ⟨bo, offo, rfl, hco⟩ := hcl p (by omega)
          have hpi : (k : Int) - 1 - (q : Int) = (p : Int) := by omega
          replace hpi := Lib.hid hpi
          have hpj : (k : Int) - 1 - (q : Int) = (p : Int) := hpi.out
          have hn1 := hbB.out q
          have hn2 := hfb.out k p
          have ⟨m1, m2⟩ := mul_bd hn1.1 hn1.2 hn2.1 hn2.2
          have hstep : Hid (psum (fun j => r.by_.getD j 0 * (firstL r k).getD (k - 1 - j) 0 % 65521) (q + 1) % 65521 = (psum (fun j => r.by_.getD j 0 * (firstL r k).getD (k - 1 - j) 0 % 65521) q % 65521 + r.by_.getD q 0 * (firstL r k).getD p 0) % 65521) := Lib.hid (by
            rw [psum, hp]
            generalize psum _ q = S
            generalize r.by_.getD q 0 * (firstL r k).getD (k - 1 - q) 0 = t
            omega)
          have hsb : 0 ≤ psum (fun j => r.by_.getD j 0 * (firstL r k).getD (k - 1 - j) 0 % 65521) q % 65521 ∧ psum (fun j => r.by_.getD j 0 * (firstL r k).getD (k - 1 - j) 0 % 65521) q % 65521 < 65521 := ⟨Int.emod_nonneg _ (by decide), Int.emod_lt_of_pos _ (by decide)⟩
          have hp1 : (p : Int) < (k : Int) := by omega
          have hp0 : (0 : Int) ≤ (p : Int) := by omega
          replace hp := Lib.hid hp
          clear hca hre hcl
          generalize psum (fun j => r.by_.getD j 0 * (firstL r k).getD (k - 1 - j) 0 % 65521) q % 65521 = S at hsb hstep ⊢
          generalize r.by_.getD q 0 = x at *
          generalize (firstL r k).getD p 0 = y at *
          have q1 : (q : Int) < (N : Int) := by omega
          have q0 : (0 : Int) ≤ (q : Int) := by omega
          go_wp2
          go_roundw
          case rel => exact ⟨q + 1, by omega, by go_num, by rw [hstep.out], hB, hO⟩
          case measure => simp [intOf] <;> omega
        · obtain rfl : N = q := by omega
          have hnt : psum (fun j => r.by_.getD j 0 * (firstL r k).getD (k - 1 - j) 0 % 65521) N % 65521 = nextT r.by_ (firstL r k) := by
            unfold nextT; rw [hN.out, hfl.out]
          rw [hnt]
          have hst2 := Lib.hid hst.out
          generalize nextT r.by_ (firstL r k) = S at *
          have how : Hid ((wr2.alloc (.cells #[.int .i64 S] 3)).ownsRow X.heap.size 3 1 (.slice Ao k co) k (ints (firstL r k))) := Lib.hid (by
            have := hO.out.below ((Below.refl wr2.heap.size wr2).alloc (Nat.le_refl _) (.cells #[.int .i64 S] 3))
            unfold OwnI at this
            rwa [hfl.out] at this)
          have hzw := hB.out.size
          clear hnt
          go_wp2_with (at_builtin; (refine wpList_append_own_at _ rfl _ _ 23 rfl X.heap.size 3 i0 _ 1 8 Tryd.underlying23 hi hz0 hz1 hz2 rfl (by omega) (.slice Ao k co) k (ints (firstL r k)) rfl how.out ⟨wr2.heap.size, 0, none⟩ 1 1 [.int .i64 S] rfl rfl (cell_one_new wr2 _ _) (by simp [Value.oneCell']) (by unfold maxLen; omega) (by omega) (by simp; omega) ?_); intro v' w1 hown1 hgrow _ _)
          have hsh := own_shape hown1
          have hfin := Lib.hid (own_snoc hfl.out hown1)
          rw [← hst2.out] at hfin
          have hB1 := Lib.hid ((hB.out.alloc (by omega) (.cells #[.int .i64 S] 3)).grown hgrow (by simp; omega) (fun q hq => (how.out.lt q hq).1))
          obtain ⟨A5, c5, rfl⟩ := hsh
          clear hown1 hgrow
          go_wp2
          go_roundw
          case rel => exact ⟨k + 1, by omega, by omega, hB1, hfin, rfl⟩
          case measure => simp [slLen]; omega
    · have k1 : ¬ (k : Int) < (n : Int) := by omega
      have hre := hO.out.rd (by rw [hfl.out]; omega)
      obtain ⟨Ar, cr, er, lc, -, -⟩ := hre.open_
      rw [hfl.out] at er lc
      simp only [Value.slice.injEq, true_and] at er
      obtain ⟨rfl, rfl⟩ := er
      have hsl : ∀ W, (Instr.slice 23 (.slice Ao k co) none (some (.int .i64 n)) none).run Tryd.prog W = .ok (.slice Ao n co) W := fun W => run_upto Ao k co n W (by omega) lc
      have hfin := Lib.hid (hre.take (k := n) (by omega))
      rw [firstL_take r (by omega)] at hfin
      have hBf := Lib.hid (hbx.out.trans (hB.out.mono (by have := hsz.out; omega)))
      have hab : Hid (AboveS w.heap.size (.slice Ao n co)) := Lib.hid (fun A' l' c' e => by
        simp only [Value.slice.injEq] at e
        obtain ⟨rfl, -, -⟩ := e
        by_cases h0 : 0 < k
        · obtain ⟨g4, c4, e4, h4, -⟩ := World.ownsRow.form hO.out (by rw [hfl.out]; exact h0)
          simp only [Value.slice.injEq, Option.some.injEq] at e4
          rw [e4.1]; show w.heap.size ≤ g4; have := hsz.out; omega
        · rcases hO.out.2 with ⟨e4, -⟩ | ⟨g4, c4, cur, e4, h4, -⟩
          · cases e4
          · simp only [Value.slice.injEq, Option.some.injEq] at e4
            rw [e4.1]; show w.heap.size ≤ g4; have := hsz.out; omega)
      clear hre
      go_wp2
      go_ret
      first | exact ⟨⟨_, rfl, hfin.out, hab.out⟩, hBf.out⟩ | exact ⟨⟨hfin.out, hab.out⟩, hBf.out⟩
theorem go1_any (r : Rule) (n : Nat) (v : Value) (w : World) (h : RdR w v r) (hl : r.by_.length ≤ r.start.length) (hl2 : r.start.length ≤ 1000) (hbb : ∀ x ∈ r.by_, 0 ≤ x ∧ x < 65521) (hbs : ∀ x ∈ r.start, 0 ≤ x ∧ x < 65521) (hn : n ≤ 10000) :
    Calls Tryd.prog 58 #[v, .int .i64 n] w fun e w' => (∃ u, e = .returned u ∧ RdI w' u (firstL r n)) ∧ Below w.heap.size w w' :=
  (go1_low r n v w h hl hl2 hbb hbs hn).mono fun _ _ ⟨⟨u, h1, h2, _⟩, h3⟩ => ⟨⟨u, h1, h2⟩, h3⟩
end Go.Proofs.YtfljkcmijnhgkaaDoor
