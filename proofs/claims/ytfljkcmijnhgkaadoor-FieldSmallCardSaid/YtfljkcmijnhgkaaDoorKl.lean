/- Apart: its contract. -/
import Derived.Test.YtfljkcmijnhgkaaDoorKk
import Derived.Test.YtfljkcmijnhgkaaDoorKb
namespace Go.Proofs.YtfljkcmijnhgkaaDoor
open Go.RowKit Go.Shelf
set_option linter.unusedSimpArgs false
theorem forIn_all {P : Program} {w : World} (p : Nat → Bool) (f : Nat → (Option Bool × PUnit) → Sem (ForInStep (Option Bool × PUnit))) : ∀ (l : List Nat),
    (∀ i ∈ l, (f i (none, ⟨⟩)).run P w = .ok (if p i then .yield (none, ⟨⟩) else .done (some false, ⟨⟩)) w) →
    (forIn l (none, ⟨⟩) f).run P w = .ok (if l.all p then (none, ⟨⟩) else (some false, ⟨⟩)) w
  | [], _ => by simp [Sem.run_pure]
  | i :: l, h => by
    have h1 := h i List.mem_cons_self
    have h2 := forIn_all p f l (fun j hj => h j (List.mem_cons_of_mem _ hj))
    rw [List.forIn_cons, Sem.run_bind, h1]
    cases hp : p i
    · simp [Result.andThen, Sem.run_pure, hp]
    · simp [Result.andThen, hp, h2]
theorem eqArr (P : Program) (d : Nat) (t e : TypeId) (n : Nat) (ht : P.underlying t = some (.array n e)) (hs : ∀ w, (sizeOf e).run P w = .ok 1 w) (ha : ∀ w, (isAgg e).run P w = .ok false w)
    (hq : ∀ (a b : Int) w, (Op.equalIn d e (.int .i64 a) (.int .i64 b)).run P w = .ok (a == b) w) (xs ys : List Int) (w : World) (hx : xs.length = n) (hy : ys.length = n) :
    (Op.equalIn (d + 1) t (.agg (ints xs).toArray) (.agg (ints ys).toArray)).run P w = .ok (decide (xs = ys)) w := by
  have hp : ∀ (zs : List Int) i, i < zs.length → (part e (ints zs).toArray i).run P w = .ok (.int .i64 (zs.getD i 0)) w := by
    intro zs i hi
    have : (ints zs).toArray[i]? = some (.int .i64 (zs.getD i 0)) := by
      rw [List.getElem?_toArray, ints_get, List.getElem?_eq_getElem hi, List.getD_eq_getElem?_getD, List.getElem?_eq_getElem hi]; rfl
    simp only [part, Sem.run_bind, ha, Result.andThen_ok, this]
    rfl
  simp only [Op.equalIn, Sem.run_bind, run_underlying ht, Result.andThen_ok, hs, Nat.mul_one, Std.Legacy.Range.forIn_eq_forIn_range', Std.Legacy.Range.size, Nat.sub_zero, Nat.add_sub_cancel, Nat.div_one]
  rw [forIn_all (fun i => xs.getD i 0 == ys.getD i 0) _ _ (fun i hi => ?_)]
  · have hall : (List.range' 0 n).all (fun i => xs.getD i 0 == ys.getD i 0) = decide (xs = ys) := by
      rw [Bool.eq_iff_iff, List.all_eq_true, decide_eq_true_iff]
      constructor
      · intro h
        exact ext_getD (by omega) (fun j hj => by have := h j (by simp; omega); simpa using this)
      · rintro rfl i _; simp
    rw [hall]
    by_cases h : xs = ys
    · simp [h, Result.andThen, Sem.run_pure]
    · simp [h, Result.andThen, Sem.run_pure]
  · have hi' : i < n := by simpa using hi
    simp only [Sem.run_bind, hp xs i (by omega), hp ys i (by omega), Result.andThen_ok, hq]
    cases h : xs.getD i 0 == ys.getD i 0
    · simp [Sem.run_pure]
    · simp [Sem.run_pure]
theorem eqWin (xs ys : List Int) (w : World) (hx : xs.length = 12) (hy : ys.length = 12) : (Op.equalIn 10000 114 (.agg (ints xs).toArray) (.agg (ints ys).toArray)).run Tryd.prog w = .ok (decide (xs = ys)) w :=
  eqArr Tryd.prog 9999 114 3 12 Tryd.underlying114 (fun _ => by kernel_rfl) (fun _ => by kernel_rfl) (fun a b w => run_equalIn_int w 9998 3 .i64 .i64 a b Tryd.underlying3) xs ys w hx hy

/-- Twelve numbers of a list from k on; 0 where there is none. -/
def padL (l : List Int) (k : Nat) : List Int := (List.range 12).map fun j => l.getD (k + j) 0
theorem padL_len (l : List Int) (k : Nat) : (padL l k).length = 12 := by simp [padL]
theorem padL_get (l : List Int) (k : Nat) {j : Nat} (hj : j < 12) : (padL l k).getD j 0 = l.getD (k + j) 0 := by
  rw [List.getD_eq_getElem?_getD, padL, List.getElem?_map, List.getElem?_range hj]; rfl
theorem diffL_none {a b : List Int} : ∀ (f i : Nat), (∀ j, i ≤ j → j < i + f → a.getD j 0 = b.getD j 0) → diffL a b f i = none
  | 0, _, _ => rfl
  | f + 1, i, h => by
    rw [diffL, if_neg (by simpa using h i (Nat.le_refl _) (by omega))]
    exact diffL_none f (i + 1) (fun j h1 h2 => h j (by omega) (by omega))
theorem diffL_some {a b : List Int} {m : Nat} : ∀ (f i : Nat), i ≤ m → m < i + f → (∀ j, i ≤ j → j < m → a.getD j 0 = b.getD j 0) → a.getD m 0 ≠ b.getD m 0 → diffL a b f i = some m
  | 0, i, h1, h2, _, _ => by omega
  | f + 1, i, h1, h2, h3, h4 => by
    by_cases e : i = m
    · subst e; rw [diffL, if_pos h4]
    · rw [diffL, if_neg (by simpa using h3 i (Nat.le_refl _) (by omega))]
      exact diffL_some f (i + 1) (by omega) (by omega) (fun j h5 h6 => h3 j (by omega) h6) h4
theorem apartR_err {r s : Rule} {x : Int} (h : bothR r s = x) (h0 : x ≠ 0) : apartR r s = (0, x) := by rw [apartR, h, if_pos h0]
theorem apartR_none {r s : Rule} {n : Nat} (h : bothR r s = 0) (hn : r.by_.length + s.by_.length = n) (he : ∀ j, j < n → (firstL r n).getD j 0 = (firstL s n).getD j 0) : apartR r s = (0, 6) := by
  rw [apartR, if_neg (by simpa using h), hn, diffL_none n 0 (fun j _ h2 => he j (by omega))]
theorem apartR_some {r s : Rule} {n m : Nat} (h : bothR r s = 0) (hn : r.by_.length + s.by_.length = n) (hm : m < n) (he : ∀ j, j < m → (firstL r n).getD j 0 = (firstL s n).getD j 0) (hd : (firstL r n).getD m 0 ≠ (firstL s n).getD m 0) : apartR r s = ((m : Int), 0) := by
  rw [apartR, if_neg (by simpa using h), hn, diffL_some n 0 (Nat.zero_le _) (by omega) (fun j _ h2 => he j h2) hd]
/-- A window is filled from a list. -/
theorem fillW {B : Nat} {l : List Int} {k n : Nat} {base c ba : Nat} (w : World) (hg : w.heap[B]? = some (.cells (ints (List.replicate 12 0)).toArray 114 (0, 0))) (ho : OwnI w base (.slice (some ⟨ba, 0, none⟩) n c) l) (hn : l.length = n) (hk : k < n) :
    ∃ w5, (∃ q, ∀ ty, (Builtin.copy_ #[23, 23] ty #[.slice (some ⟨B, 0, none⟩) 12 12, .slice (some ⟨ba, k, none⟩) (n - k) (c - k)]).run Tryd.prog w.drew = .ok (goInt q) w5) ∧
      w5.heap[B]? = some (.cells (ints (padL l k)).toArray 114 (0, 0)) ∧ w.grownBy w5 (some B) := by
  have hg' : w.drew.heap[B]? = some (.cells (ints (List.replicate 12 0)).toArray 114 (0, 0)) := hg
  have hi : (Tryd.prog.info? 3).map (·.size) = some 1 := by kernel_rfl
  have hm : ((l.drop k).take 12).length = Nat.min (n - k) 12 := by
    show _ = min (n - k) 12
    rw [List.length_take, List.length_drop]; omega
  have hml : ((l.drop k).take 12).length ≤ 12 := by rw [List.length_take]; omega
  refine ⟨_, ⟨_, fun ty => run_copy_row Tryd.prog w.drew 23 23 ty 3 B 0 12 12 ⟨ba, k, none⟩ (n - k) (c - k) _ _ (ints ((l.drop k).take 12)) Tryd.underlying23 hi hg' (by rw [ints_len, hm]) (fun j v hj => ?_) (by rw [ints_len]; simp [ints]; omega) (ints_one _)⟩, ?_, ?_⟩
  · have hj' := (List.getElem?_eq_some_iff.1 hj).1
    rw [ints_len] at hj'
    have hjl : k + j < l.length := by rw [List.length_take, List.length_drop] at hj'; omega
    have h := (ho.num (k := k + j) hjl).1
    rw [add_off]
    show w.cell? _ = _
    rw [h, ← hj, ints_get, List.getElem?_take, if_pos (by omega), List.getElem?_drop, List.getElem?_eq_getElem hjl, List.getD_eq_getElem?_getD, List.getElem?_eq_getElem hjl]; rfl
  · refine (setRow_heap w.drew B _ _ _ _ hg').trans ?_
    refine congrArg (fun L : List Value => some (Obj.cells L.toArray 114 (0, 0))) ?_
    rw [List.take_zero, List.nil_append, Nat.zero_add]
    apply List.ext_getElem?
    intro j
    by_cases h1 : j < ((l.drop k).take 12).length
    · rw [List.getElem?_append_left (by rw [ints_len]; exact h1), ints_get, ints_get, List.getElem?_take, if_pos (by omega), List.getElem?_drop]
      have hjl : k + j < l.length := by rw [List.length_take, List.length_drop] at h1; omega
      rw [padL, List.getElem?_map, List.getElem?_range (by omega), List.getElem?_eq_getElem hjl, Option.map_some, Option.map_some, Option.map_some, List.getD_eq_getElem?_getD, List.getElem?_eq_getElem hjl]; rfl
    · rw [List.getElem?_append_right (by rw [ints_len]; omega), ints_len, List.getElem?_drop, show ((l.drop k).take 12).length + (j - ((l.drop k).take 12).length) = j from by omega, ints_get]
      rw [List.getElem?_replicate, ints_get, padL, List.getElem?_map]
      by_cases h2 : j < 12
      · have hjl : l.length ≤ k + j := by rw [List.length_take, List.length_drop] at h1; omega
        rw [if_pos h2, List.getElem?_range h2, Option.map_some, Option.map_some, Option.map_some, List.getD_eq_getElem?_getD, List.getElem?_eq_none hjl]; rfl
      · rw [if_neg h2, List.getElem?_eq_none (by simpa using h2)]; rfl
  · exact ⟨rfl, rfl, rfl, by simp, fun k hk hne => by
      have : k ≠ B := fun e => hne (by rw [e])
      simp [World.setRow, Array.getElem?_modify, Ne.symm this]
      rfl⟩
set_option maxRecDepth 100000 in
set_option maxHeartbeats 800000 in
theorem apart_1 (xs ys : List Int) (Bx By j : Nat) (w : World) (hj : j < 12) (hx : xs.length = 12) (hy : ys.length = 12) (gx : w.heap[Bx]? = some (.cells (ints xs).toArray 114 (0, 0))) (gy : w.heap[By]? = some (.cells (ints ys).toArray 114 (0, 0))) :
    Calls Tryd.prog 115 (#[.int .i64 j] ++ #[.pointer (some ⟨Bx, 0, none⟩), .pointer (some ⟨By, 0, none⟩)]) w fun e w' => e = .returned (.bool (xs.getD j 0 != ys.getD j 0)) ∧ Below w.heap.size w w' := by
  have cx : ∀ (B : Nat) (zs : List Int), zs.length = 12 → w.heap[B]? = some (.cells (ints zs).toArray 114 (0, 0)) → w.cell? ⟨B, j, none⟩ = some (.int .i64 (zs.getD j 0)) := by
    intro B zs hz hg
    unfold World.cell?
    rw [hg]
    show (ints zs).toArray[j]? = _
    rw [List.getElem?_toArray, ints_get, List.getElem?_eq_getElem (by omega), List.getD_eq_getElem?_getD, List.getElem?_eq_getElem (by omega)]; rfl
  have c1 := cx Bx xs hx gx
  have c2 := cx By ys hy gy
  clear cx gx gy
  generalize xs.getD j 0 = x at *
  generalize ys.getD j 0 = y at *
  have j1 : (j : Int) < 12 := by omega
  have j0 : (0 : Int) ≤ (j : Int) := by omega
  have hB := (Below.refl w.heap.size w).drew
  replace hB := Lib.hid hB
  go_enter Tryd.func115, Tryd.ntmps115
  go_wp2
  go_still_tail 7, (by kernel_rfl)
  change wpList _ _ _ _ _ w.drew
  go_wp2
  go_ret
  exact ⟨rfl, hB.out⟩
theorem three_push (A : Array Obj) (a b c : Obj) : (((A.push a).push b).push c)[A.size]? = some a ∧ (((A.push a).push b).push c)[A.size + 1]? = some b ∧ (((A.push a).push b).push c)[A.size + 2]? = some c := by
  refine ⟨?_, ?_, ?_⟩
  · rw [Array.getElem?_push, if_neg (by simp; omega), Array.getElem?_push, if_neg (by simp), Array.getElem?_push, if_pos rfl]
  · rw [Array.getElem?_push, if_neg (by simp), Array.getElem?_push, if_pos (by simp)]
  · rw [Array.getElem?_push, if_pos (by simp)]
theorem three (w : World) (a b c : Obj) : (((w.alloc a).alloc b).alloc c).heap[w.heap.size]? = some a ∧ (((w.alloc a).alloc b).alloc c).heap[w.heap.size + 1]? = some b ∧ (((w.alloc a).alloc b).alloc c).heap[w.heap.size + 2]? = some c := three_push w.heap a b c
/-- Two rules lie in two blocks. -/
def TwoR (h : Nat) (a b c d : Value) (w : World) : Prop := (w.cell? ⟨h, 0, none⟩ = some a ∧ w.cell? ⟨h, 1, none⟩ = some b) ∧ w.cell? ⟨h + 1, 0, none⟩ = some c ∧ w.cell? ⟨h + 1, 1, none⟩ = some d
theorem TwoR.keep {h : Nat} {a b c d : Value} {A B : World} (H : TwoR h a b c d A) (hl : h + 1 < A.heap.size) (hb : Below A.heap.size A B) : TwoR h a b c d B :=
  ⟨⟨(hb.cell (p := ⟨h, 0, none⟩) (by show h < _; omega)).trans H.1.1, (hb.cell (p := ⟨h, 1, none⟩) (by show h < _; omega)).trans H.1.2⟩, (hb.cell (p := ⟨h + 1, 0, none⟩) hl).trans H.2.1, (hb.cell (p := ⟨h + 1, 1, none⟩) hl).trans H.2.2⟩
theorem lined_line (r : Rule) (A1 A2 : Option Addr) (n1 n2 d1 d2 : Nat) (w : World) (h : RdR w (.agg #[.slice A1 n1 d1, .slice A2 n2 d2]) r) :
    Calls Tryd.prog 111 #[.agg #[.slice A1 n1 d1, .slice A2 n2 d2]] w fun e w' => e = .returned (.agg #[.slice A1 n1 d1, .slice A2 n2 d2, .func (.func 144) #[] #[.pointer (some ⟨w.heap.size, 0, none⟩)]]) ∧
      LineV w' (.agg #[.slice A1 n1 d1, .slice A2 n2 d2, .func (.func 144) #[] #[.pointer (some ⟨w.heap.size, 0, none⟩)]]) r (.slice A1 n1 d1) (.slice A2 n2 d2) w.heap.size ∧ Below w.heap.size w w' := by
  refine (lined_any r _ w h).mono ?_
  rintro e w' ⟨⟨a, b, rfl, e, hg⟩, hB⟩
  simp only [Value.agg.injEq, Array.mk.injEq, List.cons.injEq, and_true] at e
  obtain ⟨rfl, rfl⟩ := e
  obtain ⟨a, b, e, ra, rb⟩ := h.below hB (Nat.le_refl _)
  simp only [Value.agg.injEq, Array.mk.injEq, List.cons.injEq, and_true] at e
  obtain ⟨rfl, rfl⟩ := e
  exact ⟨rfl, ⟨rfl, ra, rb, hg⟩, hB⟩
theorem own_some {w : World} {base : Nat} {A : Option Addr} {n c : Nat} {xs : List Int} (h : OwnI w base (.slice A n c) xs) (hn : 0 < n) : ∃ b, A = some ⟨b, 0, none⟩ ∧ n ≤ c := by
  unfold OwnI at h
  rcases h.2 with ⟨e, e2⟩ | ⟨g, cap, cur, e, -, -, h3, -⟩
  · simp only [Value.slice.injEq] at e; omega
  · simp only [Value.slice.injEq] at e; exact ⟨g, e.1, by omega⟩
theorem fst_ne {xs ys : List Int} {n : Nat} (hx : xs.length = n) (hy : ys.length = n) (h : xs ≠ ys) : ∃ m, m < n ∧ xs.getD m 0 ≠ ys.getD m 0 ∧ ∀ j, j < m → xs.getD j 0 = ys.getD j 0 := by
  have key : ∀ k, (∀ j, j < k → xs.getD j 0 = ys.getD j 0) ∨ ∃ m, m < k ∧ xs.getD m 0 ≠ ys.getD m 0 ∧ ∀ j, j < m → xs.getD j 0 = ys.getD j 0 := by
    intro k
    induction k with
    | zero => exact .inl (fun j hj => by omega)
    | succ k ih =>
      rcases ih with ih | ⟨m, h1, h2, h3⟩
      · by_cases e : xs.getD k 0 = ys.getD k 0
        · refine .inl (fun j hj => ?_)
          by_cases e2 : j = k
          · rw [e2]; exact e
          · exact ih j (by omega)
        · exact .inr ⟨k, by omega, e, ih⟩
      · exact .inr ⟨m, by omega, h2, h3⟩
  rcases key n with h1 | h1
  · exact absurd (ext_getD (by omega) (fun j hj => h1 j (by omega))) h
  · exact h1
set_option maxRecDepth 100000 in
set_option maxHeartbeats 3200000 in
theorem Apart_any (r s : Rule) (v u : Value) (w : World) (hv : RdR w v r) (hu : RdR w u s) :
    Calls Tryd.prog 39 #[v, u] w fun e w' => e = .returned (.tuple #[.int .i64 (apartR r s).1, .int .i64 (apartR r s).2]) ∧ Below w.heap.size w w' := by
  have hv' := hv
  have hu' := hu
  obtain ⟨a1, b1, rfl, ra1, rb1⟩ := hv
  obtain ⟨a2, b2, rfl, ra2, rb2⟩ := hu
  obtain ⟨A1, d1, rfl, e1, e1', -⟩ := ra1.open_
  obtain ⟨A2, d2, rfl, -⟩ := rb1.open_
  obtain ⟨A3, d3, rfl, e3, e3', -⟩ := ra2.open_
  obtain ⟨A4, d4, rfl, -⟩ := rb2.open_
  obtain ⟨X, hX, hsX, hBX, hx0, hx1, hx2⟩ : ∃ X, ((w.alloc (.cells #[.slice A1 r.by_.length d1, .slice A2 r.start.length d2] 49)).alloc (.cells #[.slice A3 s.by_.length d3, .slice A4 s.start.length d4] 49)).alloc (.cells #[.slice A1 r.by_.length d1, .slice A2 r.start.length d2, .slice A3 s.by_.length d3, .slice A4 s.start.length d4] 49) = X ∧ X.heap.size = w.heap.size + 3 ∧ Below w.heap.size w X ∧
      X.heap[w.heap.size]? = some (.cells #[.slice A1 r.by_.length d1, .slice A2 r.start.length d2] 49 (0, 0)) ∧ X.heap[w.heap.size + 1]? = some (.cells #[.slice A3 s.by_.length d3, .slice A4 s.start.length d4] 49 (0, 0)) ∧
      X.heap[w.heap.size + 2]? = some (.cells #[.slice A1 r.by_.length d1, .slice A2 r.start.length d2, .slice A3 s.by_.length d3, .slice A4 s.start.length d4] 49 (0, 0)) := by
    obtain ⟨g0, g1, g2⟩ := three w (.cells #[.slice A1 r.by_.length d1, .slice A2 r.start.length d2] 49) (.cells #[.slice A3 s.by_.length d3, .slice A4 s.start.length d4] 49) (.cells #[.slice A1 r.by_.length d1, .slice A2 r.start.length d2, .slice A3 s.by_.length d3, .slice A4 s.start.length d4] 49)
    exact ⟨_, rfl, by simp, (((Below.refl _ w).alloc (Nat.le_refl _) _).alloc (by simp) _).alloc (by simp; omega) _, g0, g1, g2⟩
  have hbo := Lib.hid (both_any r s (w.heap.size + 2) _ _ _ _ X (hv'.below hBX (Nat.le_refl _)) (hu'.below hBX (Nat.le_refl _)) hx2)
  have hv1 := Lib.hid (fun W (hW : Below w.heap.size w W) => hv'.below hW (Nat.le_refl _))
  have hu1 := Lib.hid (fun W (hW : Below w.heap.size w W) => hu'.below hW (Nat.le_refl _))
  replace hX := Lib.hid hX
  clear hv' hu' ra1 rb1 ra2 rb2 hx2
  by_cases h0 : bothR r s = 0
  · obtain ⟨hr1, hr2⟩ := bothR_ok h0
    have o1 := (rightR_ok hr1).1
    have o2 := (rightR_ok hr2).1
    rw [h0] at hbo
    have hln1 := Lib.hid (fun W hW => lined_line r A1 A2 _ _ d1 d2 W (hv1.out W hW))
    have hln2 := Lib.hid (fun W hW => lined_line s A3 A4 _ _ d3 d4 W (hu1.out W hW))
    obtain ⟨N, hN⟩ : ∃ N, r.by_.length + s.by_.length = N := ⟨_, rfl⟩
    have hNi : (N : Int) = (r.by_.length : Int) + (s.by_.length : Int) := by omega
    have hfi1 := Lib.hid (fun v a b g W hL => first_any r N v a b g W hr1 hL (by omega))
    have hfi2 := Lib.hid (fun v a b g W hL => first_any s N v a b g W hr2 hL (by omega))
    rw [hNi] at hfi1 hfi2
    have hA0 := Lib.hid (fun he => apartR_none (n := N) h0 hN he)
    have hA1 := Lib.hid (fun m hm he hd => apartR_some (n := N) (m := m) h0 hN hm he hd)
    have hN24 : N ≤ 24 := by omega
    have hfl1 := firstL_len r N
    have hfl2 := firstL_len s N
    replace hN := Lib.hid hN
    replace hNi := Lib.hid hNi
    replace hBX := Lib.hid hBX
    generalize r.by_.length = n1 at *
    generalize s.by_.length = n3 at *
    generalize r.start.length = n2 at *
    generalize s.start.length = n4 at *
    generalize hfa : firstL r N = fa at *
    generalize hfb : firstL s N = fb at *
    clear h0 hr1 hr2 hfa hfb
    replace hfl1 := Lib.hid hfl1
    replace hfl2 := Lib.hid hfl2
    go_enter Tryd.func39, Tryd.ntmps39
    go_wp2_with fail
    rw [hX.out]
    refine hbo.out.mono ?_; rintro e W1 ⟨rfl, hB1⟩
    have hg0 := (hB1.block w.heap.size (by omega)).trans hx0
    have hg1 := (hB1.block (w.heap.size + 1) (by omega)).trans hx1
    have hBW := Lib.hid (Below.then_ hBX.out hB1)
    obtain ⟨c0, c1, -, -⟩ := ret_cell hg0
    obtain ⟨c2, c3, -, -⟩ := ret_cell hg1
    have hw1 : w.heap.size + 1 < W1.heap.size := (Array.getElem?_eq_some_iff.1 hg1).1
    clear hbo hg0 hg1 hx0 hx1
    go_wp2
    refine D_begin (fun w' => TwoR w.heap.size (.slice A1 n1 d1) (.slice A2 n2 d2) (.slice A3 n3 d3) (.slice A4 n4 d4) w') (fun _ => True) 99 (by kernel_rfl) ?_
    change wpAnyD _ _ _ _ _ _ _ _ _ _ W1.drew
    simp only [List.size_toArray, List.length_cons, List.length_nil, Nat.reduceAdd, Array.replicate_succ, Array.replicate_zero, List.push_toArray, List.append_toArray, List.nil_append, List.cons_append]
    have HS : TwoR w.heap.size (.slice A1 n1 d1) (.slice A2 n2 d2) (.slice A3 n3 d3) (.slice A4 n4 d4) W1.drew := ⟨⟨c0, c1⟩, c2, c3⟩
    refine D_take (i := 0) (v := ?_) rfl (by kernel_rfl) (by kernel_rfl) (by kernel_rfl) (by kernel_rfl) (fun _ _ _ h => h) (Or.inl ⟨by rfl, ?_⟩) HS (fun _ => trivial) ?_
    rotate_left; · intro w1 hw1; obtain ⟨⟨hw1, hw2⟩, hw3, hw4⟩ := hw1; go_simp; try with_reducible rfl
    try simp only [Act.put, List.getElem_toArray, List.getElem_cons_zero, List.getElem_cons_succ, List.setIfInBounds_toArray, List.set_cons_zero, List.set_cons_succ]
    refine D_take (i := 2) (v := ?_) rfl (by kernel_rfl) (by kernel_rfl) (by kernel_rfl) (by kernel_rfl) (fun _ _ _ h => h) (Or.inl ⟨by rfl, ?_⟩) HS (fun _ => trivial) ?_
    rotate_left; · intro w1 hw1; obtain ⟨⟨hw1, hw2⟩, hw3, hw4⟩ := hw1; go_simp; try with_reducible rfl
    try simp only [Act.put, List.getElem_toArray, List.getElem_cons_zero, List.getElem_cons_succ, List.setIfInBounds_toArray, List.set_cons_zero, List.set_cons_succ]
    refine D_take (i := 4) (v := ?_) rfl (by kernel_rfl) (by kernel_rfl) (by kernel_rfl) (by kernel_rfl) (fun _ _ _ h => h) (Or.inl ⟨by rfl, ?_⟩) HS (fun _ => trivial) ?_
    rotate_left; · intro w1 hw1; obtain ⟨⟨hw1, hw2⟩, hw3, hw4⟩ := hw1; go_simp; try with_reducible rfl
    try simp only [Act.put, List.getElem_toArray, List.getElem_cons_zero, List.getElem_cons_succ, List.setIfInBounds_toArray, List.set_cons_zero, List.set_cons_succ]
    refine D_take (i := 6) (v := ?_) rfl (by kernel_rfl) (by kernel_rfl) (by kernel_rfl) (by kernel_rfl) (fun _ _ _ h => h) (Or.inl ⟨by rfl, ?_⟩) HS (fun _ => trivial) ?_
    rotate_left; · intro w1 hw1; obtain ⟨⟨hw1, hw2⟩, hw3, hw4⟩ := hw1; go_simp; try with_reducible rfl
    try simp only [Act.put, List.getElem_toArray, List.getElem_cons_zero, List.getElem_cons_succ, List.setIfInBounds_toArray, List.set_cons_zero, List.set_cons_succ]
    refine D_one (i := 1) (by kernel_rfl) rfl ?_
    intro K hK
    rw [if_pos (by rfl)]
    go_wp2_with fail
    refine (hln1.out W1.drew hBW.out.drew).mono ?_; rintro e W2 ⟨rfl, hL1, hB2⟩
    have HS2 := HS.keep hw1 hB2
    refine hK _ _ HS2 (fun _ _ => trivial) ?_
    clear hK K
    try simp only [Act.put, List.getElem_toArray, List.getElem_cons_zero, List.getElem_cons_succ, List.setIfInBounds_toArray, List.set_cons_zero, List.set_cons_succ]
    refine D_one (i := 3) (by kernel_rfl) rfl ?_
    intro K hK
    rw [if_pos (by rfl)]
    go_wp2_with fail
    refine (hfi1.out _ _ _ _ W2 hL1).mono ?_; rintro e W3 ⟨⟨va, rfl, hO1⟩, hB3⟩
    have hw2 : w.heap.size + 1 < W2.heap.size := Nat.lt_of_lt_of_le hw1 hB2.size
    have HS3 := HS2.keep hw2 hB3
    have hw3 : w.heap.size + 1 < W3.heap.size := Nat.lt_of_lt_of_le hw2 hB3.size
    obtain ⟨Aa, ca, rfl⟩ : ∃ A c, va = .slice A N c := by have h := hO1; unfold OwnI at h; rw [hfl1.out] at h; exact own_form h
    refine hK _ _ HS3 (fun _ _ => trivial) ?_
    clear hK K
    try simp only [Act.put, List.getElem_toArray, List.getElem_cons_zero, List.getElem_cons_succ, List.setIfInBounds_toArray, List.set_cons_zero, List.set_cons_succ]
    refine D_one (i := 5) (by kernel_rfl) rfl ?_
    intro K hK
    rw [if_pos (by rfl)]
    go_wp2_with fail
    refine (hln2.out W3 (((hBW.out.drew.trans (hB2.mono hBW.out.size))).trans (hB3.mono (Nat.le_trans hBW.out.size hB2.size)))).mono ?_; rintro e W4 ⟨rfl, hL2, hB4⟩
    have HS4 := HS3.keep hw3 hB4
    have hw4 : w.heap.size + 1 < W4.heap.size := Nat.lt_of_lt_of_le hw3 hB4.size
    refine hK _ _ HS4 (fun _ _ => trivial) ?_
    clear hK K
    try simp only [Act.put, List.getElem_toArray, List.getElem_cons_zero, List.getElem_cons_succ, List.setIfInBounds_toArray, List.set_cons_zero, List.set_cons_succ]
    refine D_one (i := 7) (by kernel_rfl) rfl ?_
    intro K hK
    rw [if_pos (by rfl)]
    go_wp2_with fail
    refine (hfi2.out _ _ _ _ W4 hL2).mono ?_; rintro e W5 ⟨⟨vb, rfl, hO2⟩, hB5⟩
    have HS5 := HS4.keep hw4 hB5
    obtain ⟨Ab, cb, rfl⟩ : ∃ A c, vb = .slice A N c := by have h := hO2; unfold OwnI at h; rw [hfl2.out] at h; exact own_form h
    refine hK _ _ HS5 (fun _ _ => trivial) ?_
    clear hK K
    try simp only [Act.put, List.getElem_toArray, List.getElem_cons_zero, List.getElem_cons_succ, List.setIfInBounds_toArray, List.set_cons_zero, List.set_cons_succ]
    refine D_take (i := 8) (v := ?_) rfl (by kernel_rfl) (by kernel_rfl) (by kernel_rfl) (by kernel_rfl) (fun _ _ _ h => h) (Or.inl ⟨by rfl, ?_⟩) HS5 (fun _ => trivial) ?_
    rotate_left; · intro w1 hw1; obtain ⟨⟨hw1, hw2⟩, hw3, hw4⟩ := hw1; go_simp; try with_reducible rfl
    try simp only [Act.put, List.getElem_toArray, List.getElem_cons_zero, List.getElem_cons_succ, List.setIfInBounds_toArray, List.set_cons_zero, List.set_cons_succ]
    refine D_take (i := 9) (v := ?_) rfl (by kernel_rfl) (by kernel_rfl) (by kernel_rfl) (by kernel_rfl) (fun _ _ _ h => h) (Or.inl ⟨by rfl, ?_⟩) HS5 (fun _ => trivial) ?_
    rotate_left; · intro w1 hw1; obtain ⟨⟨hw1, hw2⟩, hw3, hw4⟩ := hw1; go_simp; try with_reducible rfl
    try simp only [Act.put, List.getElem_toArray, List.getElem_cons_zero, List.getElem_cons_succ, List.setIfInBounds_toArray, List.set_cons_zero, List.set_cons_succ]
    refine D_done (by kernel_rfl) ?_ _
    have hBE : Hid (Below w.heap.size w W5) := Lib.hid (((((hBW.out.drew.trans (hB2.mono hBW.out.size)).trans (hB3.mono (Nat.le_trans hBW.out.size hB2.size))).trans (hB4.mono (Nat.le_trans hBW.out.size (Nat.le_trans hB2.size hB3.size)))).trans (hB5.mono (Nat.le_trans hBW.out.size (Nat.le_trans hB2.size (Nat.le_trans hB3.size hB4.size))))))
    have hOa : Hid (OwnI W5 0 (.slice Aa N ca) fa) := Lib.hid (((hO1.below hB4).below hB5).base (Nat.zero_le _))
    have hOb : Hid (OwnI W5 0 (.slice Ab N cb) fb) := Lib.hid (hO2.base (Nat.zero_le _))
    clear HS HS2 HS3 HS4 HS5 hO1 hO2 hB1 hB2 hB3 hB4 hB5 hBW hL1 hL2 hln1 hln2 hfi1 hfi2 hw1 hw2 hw3 hw4 hv1 hu1 c0 c1 c2 c3 hX
    go_wp2
    go_loopw [10, 11, 12] (fun f _ _ wr => ∃ k : Nat, k ≤ 36 ∧ f = .int .i64 k ∧ Hid (Below W5.heap.size W5 wr) ∧ Hid (∀ j, j < k → fa.getD j 0 = fb.getD j 0)) (fun f _ _ _ => 48 - (intOf f).toNat)
    case atStart => exact ⟨0, Nat.zero_le _, rfl, Lib.hid (Below.refl _ _), Lib.hid (fun j hj => by omega)⟩
    case round =>
      obtain ⟨k, hk, rfl, hB, hE⟩ := hrel
      by_cases hlt : k < N
      · have k1 : (k : Int) < (n1 : Int) + (n3 : Int) := by have := hNi.out; omega
        obtain ⟨ba, hba, hca⟩ := own_some hOa.out (by omega)
        obtain ⟨bb, hbb, hcb⟩ := own_some hOb.out (by omega)
        subst hba hbb
        obtain ⟨X2, hX2, hs2, hb2, g0, g1⟩ : ∃ X2, (wr.alloc (.cells #[.int .i64 0, .int .i64 0, .int .i64 0, .int .i64 0, .int .i64 0, .int .i64 0, .int .i64 0, .int .i64 0, .int .i64 0, .int .i64 0, .int .i64 0, .int .i64 0] 114)).alloc (.cells #[.int .i64 0, .int .i64 0, .int .i64 0, .int .i64 0, .int .i64 0, .int .i64 0, .int .i64 0, .int .i64 0, .int .i64 0, .int .i64 0, .int .i64 0, .int .i64 0] 114) = X2 ∧ X2.heap.size = wr.heap.size + 2 ∧ Below wr.heap.size wr X2 ∧ X2.heap[wr.heap.size]? = some (.cells (ints (List.replicate 12 0)).toArray 114 (0, 0)) ∧ X2.heap[wr.heap.size + 1]? = some (.cells (ints (List.replicate 12 0)).toArray 114 (0, 0)) := by
          refine ⟨_, rfl, by simp, ((Below.refl _ wr).alloc (Nat.le_refl _) _).alloc (by simp) _, ?_, ?_⟩
          · exact (Below.heap_alloc _ _ _ (by simp)).trans (World.alloc_heap_new wr _)
          · have h := World.alloc_heap_new (wr.alloc (.cells #[.int .i64 0, .int .i64 0, .int .i64 0, .int .i64 0, .int .i64 0, .int .i64 0, .int .i64 0, .int .i64 0, .int .i64 0, .int .i64 0, .int .i64 0, .int .i64 0] 114)) (.cells #[.int .i64 0, .int .i64 0, .int .i64 0, .int .i64 0, .int .i64 0, .int .i64 0, .int .i64 0, .int .i64 0, .int .i64 0, .int .i64 0, .int .i64 0, .int .i64 0] 114)
            rw [World.size_alloc] at h; exact h
        have hoa := (hOa.out.below hB.out).below hb2
        have hob := (hOb.out.below hB.out).below hb2
        have hlb : bb < wr.heap.size := ((hOb.out.below hB.out).lt bb rfl).2
        obtain ⟨w5, ⟨q5, hc5⟩, gx5, gr5⟩ := fillW (B := wr.heap.size) (k := k) X2 g0 hoa hfl1.out hlt
        have hob5 : OwnI w5 0 (.slice (some ⟨bb, 0, none⟩) N cb) fb := hob.kept gr5 (.inr (by show some bb ≠ some wr.heap.size; intro e; have := Option.some.inj e; omega))
        have g15 := (gr5.block (wr.heap.size + 1) (by omega) (by intro e; have := Option.some.inj e; omega)).trans g1
        obtain ⟨w6, ⟨q6, hc6⟩, gy6, gr6⟩ := fillW (B := wr.heap.size + 1) (k := k) w5 g15 hob5 hfl2.out hlt
        have gx6 := (gr6.block wr.heap.size (by have := gr5.size; omega) (by intro e; have := Option.some.inj e; omega)).trans gx5
        have hB6 : Hid (Below W5.heap.size W5 w6) := Lib.hid (by
          have h := hB.out.size
          exact (((Below.then_ hB.out hb2).grown gr5 (by omega) (fun j e => by have := Option.some.inj e; omega))).grown gr6 (by have := gr5.size; omega) (fun j e => by have := Option.some.inj e; omega))
        have hlx := padL_len fa k
        have hly := padL_len fb k
        have hpx := Lib.hid (fun j (hj : j < 12) => padL_get fa k hj)
        have hpy := Lib.hid (fun j (hj : j < 12) => padL_get fb k hj)
        generalize padL fa k = px at *
        generalize padL fb k = py at *
        obtain ⟨x0, x1, x2, x3, x4, x5, x6, x7, x8, x9, x10, x11, ex⟩ := twelve hlx
        obtain ⟨y0, y1, y2, y3, y4, y5, y6, y7, y8, y9, y10, y11, ey⟩ := twelve hly
        have gx7 : w6.heap[wr.heap.size]? = some (.cells #[.int .i64 x0, .int .i64 x1, .int .i64 x2, .int .i64 x3, .int .i64 x4, .int .i64 x5, .int .i64 x6, .int .i64 x7, .int .i64 x8, .int .i64 x9, .int .i64 x10, .int .i64 x11] 114 (0, 0)) := by rw [ex] at gx6; exact gx6
        have gy7 : w6.heap[wr.heap.size + 1]? = some (.cells #[.int .i64 y0, .int .i64 y1, .int .i64 y2, .int .i64 y3, .int .i64 y4, .int .i64 y5, .int .i64 y6, .int .i64 y7, .int .i64 y8, .int .i64 y9, .int .i64 y10, .int .i64 y11] 114 (0, 0)) := by rw [ey] at gy6; exact gy6
        have cx := win_get x0 x1 x2 x3 x4 x5 x6 x7 x8 x9 x10 x11 gx7
        have cy := win_get y0 y1 y2 y3 y4 y5 y6 y7 y8 y9 y10 y11 gy7
        have hsa : ∀ W, (Instr.slice 23 (.slice (some ⟨ba, 0, none⟩) N ca) (some (.int .i64 k)) none none).run Tryd.prog W = .ok (.slice (some ⟨ba, k, none⟩) (N - k) (ca - k)) W := fun W => by
          rw [run_from _ N ca k W (by omega), if_neg (by omega), Option.map_some, add_off, Nat.zero_add]
        have hsb : ∀ W, (Instr.slice 23 (.slice (some ⟨bb, 0, none⟩) N cb) (some (.int .i64 k)) none none).run Tryd.prog W = .ok (.slice (some ⟨bb, k, none⟩) (N - k) (cb - k)) W := fun W => by
          rw [run_from _ N cb k W (by omega), if_neg (by omega), Option.map_some, add_off, Nat.zero_add]
        have hwin := eqWin px py w6 hlx hly
        have hgx := Lib.hid gx6
        have hgy := Lib.hid gy6
        have hz6 : Hid (wr.heap.size + 1 < w6.heap.size) := Lib.hid (Array.getElem?_eq_some_iff.1 gy6).1
        clear hoa hob hob5 g0 g1 g15 gx5 gr5 gr6 gx6 gy6 hb2 gx7 gy7
        replace hX2 := Lib.hid hX2
        replace hs2 := Lib.hid hs2
        replace hlx := Lib.hid hlx
        replace hly := Lib.hid hly
        by_cases he : px = py
        · have hwe : (Op.equalIn 10000 114 (.agg #[.int .i64 x0, .int .i64 x1, .int .i64 x2, .int .i64 x3, .int .i64 x4, .int .i64 x5, .int .i64 x6, .int .i64 x7, .int .i64 x8, .int .i64 x9, .int .i64 x10, .int .i64 x11]) (.agg #[.int .i64 y0, .int .i64 y1, .int .i64 y2, .int .i64 y3, .int .i64 y4, .int .i64 y5, .int .i64 y6, .int .i64 y7, .int .i64 y8, .int .i64 y9, .int .i64 y10, .int .i64 y11])).run Tryd.prog w6 = .ok true w6 := by
            rw [decide_eq_true he] at hwin; rw [ex, ey] at hwin; exact hwin
          have hE2 : Hid (∀ j, j < k + 12 → fa.getD j 0 = fb.getD j 0) := Lib.hid (fun j hj => by
            by_cases h : j < k
            · exact hE.out j h
            · have h1 := hpx.out (j - k) (by omega)
              have h2 := hpy.out (j - k) (by omega)
              rw [show k + (j - k) = j from by omega] at h1 h2
              rw [← h1, ← h2, he])
          clear hwin he ex ey
          go_wp2
          rw [hX2.out]
          go_still_tail 4, (by kernel_rfl)
          change wpList _ _ _ _ _ X2.drew
          go_wp2
          go_still_tail 4, (by kernel_rfl)
          change wpList _ _ _ _ _ w5.drew
          go_wp2
          go_roundw
          case rel => exact ⟨k + 12, by omega, by go_num, hB6, hE2⟩
          case measure => simp [intOf]; omega
        · have hwe : (Op.equalIn 10000 114 (.agg #[.int .i64 x0, .int .i64 x1, .int .i64 x2, .int .i64 x3, .int .i64 x4, .int .i64 x5, .int .i64 x6, .int .i64 x7, .int .i64 x8, .int .i64 x9, .int .i64 x10, .int .i64 x11]) (.agg #[.int .i64 y0, .int .i64 y1, .int .i64 y2, .int .i64 y3, .int .i64 y4, .int .i64 y5, .int .i64 y6, .int .i64 y7, .int .i64 y8, .int .i64 y9, .int .i64 y10, .int .i64 y11])).run Tryd.prog w6 = .ok false w6 := by
            rw [decide_eq_false he] at hwin; rw [ex, ey] at hwin; exact hwin
          clear hwin ex ey
          obtain ⟨m, hm1, hm2, hm3⟩ := fst_ne hlx.out hly.out he
          have hmN : k + m < N := by
            by_cases h : k + m < N
            · exact h
            · refine absurd ?_ hm2
              rw [hpx.out m hm1, hpy.out m hm1, List.getD_eq_getElem?_getD, List.getElem?_eq_none (by rw [hfl1.out]; omega), List.getD_eq_getElem?_getD, List.getElem?_eq_none (by rw [hfl2.out]; omega)]
          have hr : Hid (apartR r s = ((k : Int) + (m : Int), 0)) := Lib.hid (by
            rw [hA1.out (k + m) hmN (fun j hj => by
              by_cases h : j < k
              · exact hE.out j h
              · have h1 := hpx.out (j - k) (by omega)
                have h2 := hpy.out (j - k) (by omega)
                rw [show k + (j - k) = j from by omega] at h1 h2
                rw [← h1, ← h2, hm3 (j - k) (by omega)]) (by rw [← hpx.out m hm1, ← hpy.out m hm1]; exact hm2)]
            simp)
          have hfi : Hid (fstIdx (fun j => px.getD j 0 != py.getD j 0) 12 = (m : Int)) := Lib.hid (fstIdx_hit hm1 (by simpa using hm2) (fun j hj => by simpa using hm3 j hj))
          have hnum : Calls Tryd.prog 114 #[.int .i64 12] w6 fun e w' => e = .returned (.slice (some ⟨w6.heap.size, 0, none⟩) 12 12) ∧ OwnI w' w6.heap.size (.slice (some ⟨w6.heap.size, 0, none⟩) 12 12) (natI (List.range 12)) ∧ Below w6.heap.size w6 w' := numbers_any 12 w6 (by decide)
          have hix := Lib.hid (fun W7 (hB7 : Below w6.heap.size w6 W7) (hO7 : OwnI W7 w6.heap.size (.slice (some ⟨w6.heap.size, 0, none⟩) 12 12) (natI (List.range 12))) =>
            IndexFunc_int (ints (natI (List.range 12))) (fun j => px.getD j 0 != py.getD j 0) (.slice (some ⟨w6.heap.size, 0, none⟩) 12 12) 115 #[.pointer (some ⟨wr.heap.size, 0, none⟩), .pointer (some ⟨wr.heap.size + 1, 0, none⟩)] (enters_of Tryd.func115 (by kernel_rfl) rfl) W7 (hO7.rd (by simp [natI]))
              (fun W j u hW hu => by
                have hj : j < 12 := by have := (List.getElem?_eq_some_iff.1 hu).1; simpa [ints, natI] using this
                have hu' : u = .int .i64 j := by
                  rw [ints_get, natI, List.getElem?_map, List.getElem?_range hj] at hu
                  simpa using hu.symm
                subst hu'
                refine (apart_1 px py wr.heap.size (wr.heap.size + 1) j W hj hlx.out hly.out ?_ ?_).mono (fun e w' h => ⟨h.1, hW.trans (h.2.mono hW.size)⟩)
                · exact (hW.block _ (by have := hB7.size; have := hz6.out; omega)).trans ((hB7.block _ (by have := hz6.out; omega)).trans hgx.out)
                · exact (hW.block _ (by have := hB7.size; have := hz6.out; omega)).trans ((hB7.block _ hz6.out).trans hgy.out)))
          replace hnum := Lib.hid hnum
          have hmk : (m : Int) < 12 := by omega
          clear he hm2 hm3
          go_wp2
          rw [hX2.out]
          go_still_tail 4, (by kernel_rfl)
          change wpList _ _ _ _ _ X2.drew
          go_wp2
          go_still_tail 4, (by kernel_rfl)
          change wpList _ _ _ _ _ w5.drew
          go_wp2_with fail
          refine hnum.out.mono ?_; rintro e W7 ⟨rfl, hO7, hB7⟩
          go_wp2_with fail
          refine (hix.out W7 hB7 hO7).mono ?_; rintro e W8 ⟨rfl, hB8⟩
          rw [show (ints (natI (List.range 12))).length = 12 from by simp [ints, natI], hfi.out]
          go_wp2
          go_ret2
          exact ⟨by rw [hr.out]; rfl, (hBE.out.trans (hB6.out.mono hBE.out.size)).trans ((Below.then_ hB7 hB8).mono (Nat.le_trans hBE.out.size hB6.out.size))⟩
      · have k1 : ¬ (k : Int) < (n1 : Int) + (n3 : Int) := by have := hNi.out; omega
        have hr := Lib.hid (hA0.out (fun j hj => hE.out j (by omega)))
        go_wp2
        go_ret2
        exact ⟨by rw [hr.out]; rfl, hBE.out.trans (hB.out.mono hBE.out.size)⟩
  · have hr := Lib.hid (apartR_err (s := s) rfl h0)
    have hne : (bothR r s != 0) = true := by rw [bne_iff_ne]; exact h0
    have hca := Lib.hid (bothR_cases r s)
    generalize bothR r s = x at *
    clear h0
    go_enter Tryd.func39, Tryd.ntmps39
    go_wp2_with fail
    rw [hX.out]
    refine hbo.out.mono ?_; rintro e W1 ⟨rfl, hB1⟩
    go_wp2
    go_ret2
    exact ⟨by rw [hr.out]; rfl, Below.then_ hBX hB1⟩
end Go.Proofs.YtfljkcmijnhgkaaDoor
