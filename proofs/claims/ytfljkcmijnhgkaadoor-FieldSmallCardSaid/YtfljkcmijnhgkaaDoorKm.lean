/- How sequences are put together: the functions of the table joins: their contracts. joined: its contract. Sum, Times, Folded: their contracts. -/
import Derived.Test.YtfljkcmijnhgkaaDoorKj
import Derived.Test.YtfljkcmijnhgkaaDoorKi
import Derived.StillTailTactics
import Derived.Test.YtfljkcmijnhgkaaDoorKl
import Derived.Lib.MinMax
namespace Go.Proofs.YtfljkcmijnhgkaaDoor
open Go.RowKit Go.Shelf
set_option linter.unusedSimpArgs false
theorem getD_bd {l : List Int} (h : ∀ x ∈ l, 0 ≤ x ∧ x < 65521) (k : Nat) : 0 ≤ l.getD k 0 ∧ l.getD k 0 < 65521 := by
  by_cases hk : k < l.length
  · rw [List.getD_eq_getElem?_getD, List.getElem?_eq_getElem hk]; exact h _ (List.getElem_mem hk)
  · rw [List.getD_eq_getElem?_getD, List.getElem?_eq_none (by omega)]; decide
set_option maxHeartbeats 400000 in
theorem joins_2 (m n : Nat) (w : World) (hm : m ≤ 12) (hn : n ≤ 12) : Calls Tryd.prog 172 #[.int .i64 m, .int .i64 n] w fun e w' => e = .returned (.int .i64 ((m : Int) + (n : Int))) ∧ w = w' := by
  go_enter Tryd.func172, Tryd.ntmps172
  go_wp2
  go_ret
  exact ⟨rfl, rfl⟩
set_option maxHeartbeats 400000 in
theorem joins_6 (m n : Nat) (w : World) (hm : m ≤ 12) (hn : n ≤ 12) : Calls Tryd.prog 176 #[.int .i64 m, .int .i64 n] w fun e w' => e = .returned (.int .i64 ((m : Int) + (n : Int))) ∧ w = w' := by
  go_enter Tryd.func176, Tryd.ntmps176
  go_wp2
  go_ret
  exact ⟨rfl, rfl⟩
set_option maxHeartbeats 400000 in
theorem joins_4 (m n : Nat) (w : World) (hm : m ≤ 12) (hn : n ≤ 12) : Calls Tryd.prog 174 #[.int .i64 m, .int .i64 n] w fun e w' => e = .returned (.int .i64 ((m : Int) * (n : Int))) ∧ w = w' := by
  have hb : m * n ≤ 12 * 12 := Nat.mul_le_mul hm hn
  have hp : (m : Int) * (n : Int) = ((m * n : Nat) : Int) := by simp
  have hw : IntKind.i64.wrap ((m : Int) * (n : Int)) = (m : Int) * (n : Int) := IntWalk.i64_in _ ⟨by rw [hp]; omega, by rw [hp]; omega⟩
  have ⟨q1, q2⟩ : 0 ≤ (m : Int) * (n : Int) ∧ (m : Int) * (n : Int) ≤ 144 := by rw [hp]; omega
  clear hp
  go_enter Tryd.func174, Tryd.ntmps174
  go_wp2
  go_ret
  exact ⟨rfl, rfl⟩
set_option maxRecDepth 100000 in
set_option maxHeartbeats 800000 in
theorem joins_1 (a b : List Int) (n : Nat) (va vb : Value) (w : World) (ha : ∀ x ∈ a, 0 ≤ x ∧ x < 65521) (hb : ∀ x ∈ b, 0 ≤ x ∧ x < 65521) (h1 : n < a.length) (h2 : n < b.length) (ra : RdI w va a) (rb : RdI w vb b) :
    Calls Tryd.prog 170 #[va, vb, .int .i64 n] w fun e w' => e = .returned (.int .i64 (joinT 0 a b n)) ∧ Below w.heap.size w w' := by
  obtain ⟨A, c, rfl, l1, l2, l3⟩ := ra.open_
  obtain ⟨B, d, rfl, m1, m2, m3⟩ := rb.open_
  obtain ⟨ba, oa, rfl, ca⟩ := l3 n h1
  obtain ⟨bb, ob, rfl, cb⟩ := m3 n h2
  have hx := getD_bd ha n
  have hy := getD_bd hb n
  have hJ : Hid (joinT 0 a b n = (a.getD n 0 + b.getD n 0) % 65521) := Lib.hid rfl
  clear ra rb l3 m3 ha hb
  generalize a.getD n 0 = x at *
  generalize b.getD n 0 = y at *
  generalize a.length = la at *
  generalize b.length = lb at *
  have k1 : (n : Int) < (la : Int) := by omega
  have k2 : (n : Int) < (lb : Int) := by omega
  have k0 : (0 : Int) ≤ (n : Int) := by omega
  have hB : Below w.heap.size w (w.drew.alloc (.cells #[.int .i64 x, .int .i64 y] 3)) := (Below.refl _ _).drew.alloc (Nat.le_refl _) _
  have htt := Lib.hid (total_two x y w.drew.heap.size (w.drew.alloc (.cells #[.int .i64 x, .int .i64 y] 3)) hx hy (heap_alloc_new _ _))
  replace hB := Lib.hid hB
  replace hx := Lib.hid hx
  replace hy := Lib.hid hy
  go_enter Tryd.func170, Tryd.ntmps170
  go_wp2
  go_still_tail 8, (by kernel_rfl)
  change wpList _ _ _ _ _ w.drew
  go_wp2_with fail
  refine htt.out.mono ?_; rintro e w1 ⟨rfl, rfl⟩
  go_wp2
  go_ret
  exact ⟨by rw [hJ.out]; rfl, hB.out⟩
set_option maxRecDepth 100000 in
set_option maxHeartbeats 800000 in
theorem joins_3 (a b : List Int) (n : Nat) (va vb : Value) (w : World) (ha : ∀ x ∈ a, 0 ≤ x ∧ x < 65521) (hb : ∀ x ∈ b, 0 ≤ x ∧ x < 65521) (h1 : n < a.length) (h2 : n < b.length) (ra : RdI w va a) (rb : RdI w vb b) :
    Calls Tryd.prog 173 #[va, vb, .int .i64 n] w fun e w' => e = .returned (.int .i64 (joinT 1 a b n)) ∧ Below w.heap.size w w' := by
  obtain ⟨A, c, rfl, l1, l2, l3⟩ := ra.open_
  obtain ⟨B, d, rfl, m1, m2, m3⟩ := rb.open_
  obtain ⟨ba, oa, rfl, ca⟩ := l3 n h1
  obtain ⟨bb, ob, rfl, cb⟩ := m3 n h2
  have hx := getD_bd ha n
  have hy := getD_bd hb n
  have hJ : Hid (joinT 1 a b n = a.getD n 0 * b.getD n 0 % 65521) := Lib.hid rfl
  clear ra rb l3 m3 ha hb
  generalize a.getD n 0 = x at *
  generalize b.getD n 0 = y at *
  generalize a.length = la at *
  generalize b.length = lb at *
  have k1 : (n : Int) < (la : Int) := by omega
  have k2 : (n : Int) < (lb : Int) := by omega
  have k0 : (0 : Int) ≤ (n : Int) := by omega
  have ⟨p1, p2⟩ := mul_bd hx.1 hx.2 hy.1 hy.2
  have hw : IntKind.i64.wrap (x * y) = x * y := IntWalk.i64_in _ ⟨by omega, by omega⟩
  have hm : (x * y).tmod 65521 = x * y % 65521 := Int.tmod_eq_emod_of_nonneg p1
  have hB := (Below.refl w.heap.size w).drew
  replace hB := Lib.hid hB
  go_enter Tryd.func173, Tryd.ntmps173
  go_wp2
  go_still_tail 10, (by kernel_rfl)
  change wpList _ _ _ _ _ w.drew
  go_wp2
  go_ret
  exact ⟨by rw [hJ.out]; rfl, hB.out⟩
set_option maxRecDepth 100000 in
set_option maxHeartbeats 800000 in
theorem joins_5 (a b : List Int) (n : Nat) (va vb : Value) (w : World) (ha : ∀ x ∈ a, 0 ≤ x ∧ x < 65521) (hb : ∀ x ∈ b, 0 ≤ x ∧ x < 65521) (h1 : n < a.length) (h2 : n < b.length) (hn : n ≤ 1000) (ra : RdI w va a) (rb : RdI w vb b) :
    Calls Tryd.prog 175 #[va, vb, .int .i64 n] w fun e w' => e = .returned (.int .i64 (joinT 2 a b n)) ∧ Below w.heap.size w w' := by
  obtain ⟨A, c, rfl, l1, l2, l3⟩ := ra.open_
  obtain ⟨B, d, rfl, m1, m2, m3⟩ := rb.open_
  have hJ : Hid (joinT 2 a b n = psum (fun i => a.getD i 0 * b.getD (n - i) 0 % 65521) (n + 1) % 65521) := Lib.hid rfl
  have hbd := Lib.hid (fun q => psum_bd (f := fun i => a.getD i 0 * b.getD (n - i) 0 % 65521) (fun j => ⟨Int.emod_nonneg _ (by decide), Int.emod_lt_of_pos _ (by decide)⟩) q)
  have hxa := Lib.hid (getD_bd ha)
  have hyb := Lib.hid (getD_bd hb)
  replace l3 := Lib.hid l3
  replace m3 := Lib.hid m3
  clear ra rb ha hb
  generalize a.length = la at *
  generalize b.length = lb at *
  go_enter Tryd.func175, Tryd.ntmps175
  go_wp2
  go_loopw [7, 8, 11] (fun s _ i wr => ∃ q : Nat, q ≤ n + 1 ∧ i = .int .i64 q ∧ s = .int .i64 (psum (fun i => a.getD i 0 * b.getD (n - i) 0 % 65521) q) ∧ Hid (Below w.heap.size w wr)) (fun _ _ i _ => n + 1 - (intOf i).toNat)
  case atStart => exact ⟨0, Nat.zero_le _, rfl, rfl, Lib.hid (Below.refl _ _)⟩
  case round =>
    obtain ⟨q, hq, rfl, rfl, hB⟩ := hrel
    have ⟨p1, p2⟩ := hbd.out q
    by_cases hlt : q < n + 1
    · obtain ⟨ba, oa, rfl, ca⟩ := l3.out q (by omega)
      obtain ⟨bb, ob, rfl, cb⟩ := m3.out (n - q) (by omega)
      replace ca := (hB.out.cell (p := ⟨ba, oa + q, none⟩) (World.block_lt_of_cell? w _ ca)).trans ca
      replace cb := (hB.out.cell (p := ⟨bb, ob + (n - q), none⟩) (World.block_lt_of_cell? w _ cb)).trans cb
      have hx := hxa.out q
      have hy := hyb.out (n - q)
      have hs : Hid (psum (fun i => a.getD i 0 * b.getD (n - i) 0 % 65521) (q + 1) = psum (fun i => a.getD i 0 * b.getD (n - i) 0 % 65521) q + a.getD q 0 * b.getD (n - q) 0 % 65521) := Lib.hid rfl
      generalize psum (fun i => a.getD i 0 * b.getD (n - i) 0 % 65521) q = S at p1 p2 hs ⊢
      generalize a.getD q 0 = x at *
      generalize b.getD (n - q) 0 = y at *
      generalize hj : n - q = j at *
      have ⟨m1', m2'⟩ := mul_bd hx.1 hx.2 hy.1 hy.2
      have hw : IntKind.i64.wrap (x * y) = x * y := IntWalk.i64_in _ ⟨by omega, by omega⟩
      have hm : (x * y).tmod 65521 = x * y % 65521 := Int.tmod_eq_emod_of_nonneg m1'
      have hsb : IntKind.i64.wrap ((n : Int) - (q : Int)) = (j : Int) := by rw [show (n : Int) - q = j from by omega]; exact IntWalk.i64_in _ ⟨by omega, by omega⟩
      have hsw : IntKind.i64.wrap (S + x * y % 65521) = S + x * y % 65521 := IntWalk.i64_in _ ⟨by omega, by omega⟩
      have k1 : (q : Int) < (la : Int) := by omega
      have k0 : (0 : Int) ≤ (q : Int) := by omega
      have k3 : (j : Int) < (lb : Int) := by omega
      have k2 : (0 : Int) ≤ (j : Int) := by omega
      have k4 : (q : Int) < (n : Int) + 1 := by omega
      have hB2 := Lib.hid hB.out.drew
      replace hj := Lib.hid hj
      go_wp2
      go_still_tail 14, (by kernel_rfl)
      change wpList _ _ _ _ _ wr.drew
      go_wp2
      go_roundw
      case rel => exact ⟨q + 1, by omega, by go_num, congrArg (Value.int .i64) hs.out.symm, hB2⟩
      case measure => simp [intOf]; omega
    · obtain rfl : q = n + 1 := by omega
      have k4 : ¬ ((n : Int) + 1 < (n : Int) + 1) := by omega
      generalize psum (fun i => a.getD i 0 * b.getD (n - i) 0 % 65521) (n + 1) = S at p1 p2 hJ ⊢
      go_wp2
      go_ret
      exact ⟨by rw [hJ.out]; rfl, hB.out⟩
end Go.Proofs.YtfljkcmijnhgkaaDoor

namespace Go.Proofs.YtfljkcmijnhgkaaDoor
open Go.RowKit Go.Shelf
set_option linter.unusedSimpArgs false
theorem joinT_bd (h : Nat) (a b : List Int) (n : Nat) : 0 ≤ joinT h a b n ∧ joinT h a b n < 65521 := by
  unfold joinT
  split <;> omega
/-- The first k terms told. -/
def jnP (h : Nat) (a b : List Int) (L k : Nat) : List Int := (List.range L).map fun j => if j < k then joinT h a b j else 0
theorem jnP_zero (h : Nat) (a b : List Int) (L : Nat) : jnP h a b L 0 = List.replicate L 0 := by
  apply List.ext_getElem (by simp [jnP])
  intro j h1 h2
  simp [jnP]
theorem jnP_len (h : Nat) (a b : List Int) (L k : Nat) : (jnP h a b L k).length = L := by simp [jnP]
theorem jnP_end (h : Nat) (a b : List Int) (L : Nat) : jnP h a b L L = (List.range L).map (joinT h a b) := by
  apply List.map_congr_left; intro j hj
  rw [if_pos (by simpa using hj)]
theorem jnP_set (h : Nat) (a b : List Int) (L k : Nat) : (jnP h a b L k).set k (joinT h a b k) = jnP h a b L (k + 1) := by
  apply List.ext_getElem (by simp [jnP])
  intro j h1 h2
  rw [List.getElem_set]
  simp only [jnP, List.getElem_map, List.getElem_range]
  by_cases e : k = j
  · subst e; rw [if_pos rfl, if_pos (by omega)]
  · rw [if_neg e]
    by_cases h : j < k
    · rw [if_pos h, if_pos (by omega)]
    · rw [if_neg h, if_neg (by omega)]
theorem joinR_err {h : Nat} {r s : Rule} {x : Int} (e : bothR r s = x) (h0 : x ≠ 0) : joinR h r s = (⟨[], []⟩, x) := by rw [joinR, e, if_pos h0]
theorem joinR_none {h : Nat} {r s : Rule} {o M : Nat} {l : List Int} (e : bothR r s = 0) (ho : joinO h r.by_.length s.by_.length = o) (hl : joinL h r s = l) (hM : min o 12 = M) (hf : fitM l M = none) : joinR h r s = (⟨[], []⟩, 11) := by
  rw [joinR, if_neg (by simpa using e), hl, ho, hM, hf]
theorem joinR_some {h : Nat} {r s t : Rule} {o M : Nat} {l : List Int} (e : bothR r s = 0) (ho : joinO h r.by_.length s.by_.length = o) (hl : joinL h r s = l) (hM : min o 12 = M) (hf : fitM l M = some t) : joinR h r s = (t, 0) := by
  rw [joinR, if_neg (by simpa using e), hl, ho, hM, hf]
/-- The table holds a pair of functions under a key. -/
def JoinAt (W : World) (ks : ByteArray) (tf lf : Nat) : Prop :=
  ∃ bm, W.cell? ⟨0, 0, none⟩ = some (.map (some bm)) ∧ bm < W.heap.size ∧ ∀ W' : World, W'.heap[bm]? = W.heap[bm]? → (Instr.lookup 140 (.map (some bm)) (.string ks) false).run Tryd.prog W' = .ok (.agg #[.func (.func tf) #[] #[], .func (.func lf) #[] #[]]) W'
theorem JoinAt.below {W W' : World} {ks : ByteArray} {tf lf : Nat} (h : JoinAt W ks tf lf) (hb : Below W.heap.size W W') : JoinAt W' ks tf lf := by
  obtain ⟨bm, h1, h2, h3⟩ := h
  exact ⟨bm, (hb.cell (p := ⟨0, 0, none⟩) (World.block_lt_of_cell? W _ h1)).trans h1, Nat.lt_of_lt_of_le h2 hb.size, fun W2 e => h3 W2 (e.trans (hb.block bm h2))⟩
set_option maxRecDepth 100000 in
set_option maxHeartbeats 3200000 in
theorem joined_any (h : Nat) (ks : ByteArray) (tf lf : Nat) (r s : Rule) (v u : Value) (w : World) (hv : RdR w v r) (hu : RdR w u s) (hJ : JoinAt w ks tf lf)
    (et : ∀ args w, (callFunc tf args).run Tryd.prog w = .ok (.enter tf args) w) (el : ∀ args w, (callFunc lf args).run Tryd.prog w = .ok (.enter lf args) w)
    (hlong : ∀ (m n : Nat) W, m ≤ 12 → n ≤ 12 → Calls Tryd.prog lf #[.int .i64 m, .int .i64 n] W fun e w' => e = .returned (.int .i64 ((joinO h m n : Nat) : Int)) ∧ W = w')
    (hterm : ∀ (a b : List Int) (n : Nat) (va vb : Value) W, (∀ x ∈ a, 0 ≤ x ∧ x < 65521) → (∀ x ∈ b, 0 ≤ x ∧ x < 65521) → n < a.length → n < b.length → n ≤ 1000 → RdI W va a → RdI W vb b → Calls Tryd.prog tf #[va, vb, .int .i64 n] W fun e w' => e = .returned (.int .i64 (joinT h a b n)) ∧ Below W.heap.size W w') :
    Calls Tryd.prog 116 #[v, u, .string ks] w (RuleOut (joinR h r s) w) := by
  have hv' := hv
  have hu' := hu
  obtain ⟨a1, b1, rfl, ra1, rb1⟩ := hv
  obtain ⟨a2, b2, rfl, ra2, rb2⟩ := hu
  obtain ⟨A1, d1, rfl, e1, e1', -⟩ := ra1.open_
  obtain ⟨A2, d2, rfl, -⟩ := rb1.open_
  obtain ⟨A3, d3, rfl, e3, e3', -⟩ := ra2.open_
  obtain ⟨A4, d4, rfl, -⟩ := rb2.open_
  obtain ⟨X, hX, hsX, hBX, hx0, hx1, hx2, hx3⟩ : ∃ X, (((w.alloc (.cells #[.slice A1 r.by_.length d1, .slice A2 r.start.length d2] 49)).alloc (.cells #[.slice A3 s.by_.length d3, .slice A4 s.start.length d4] 49)).alloc (.cells #[.slice none 0 0, .slice none 0 0] 49)).alloc (.cells #[.slice A1 r.by_.length d1, .slice A2 r.start.length d2, .slice A3 s.by_.length d3, .slice A4 s.start.length d4] 49) = X ∧ X.heap.size = w.heap.size + 4 ∧ Below w.heap.size w X ∧
      X.heap[w.heap.size]? = some (.cells #[.slice A1 r.by_.length d1, .slice A2 r.start.length d2] 49 (0, 0)) ∧ X.heap[w.heap.size + 1]? = some (.cells #[.slice A3 s.by_.length d3, .slice A4 s.start.length d4] 49 (0, 0)) ∧
      X.heap[w.heap.size + 2]? = some (.cells #[.slice none 0 0, .slice none 0 0] 49 (0, 0)) ∧
      X.heap[w.heap.size + 3]? = some (.cells #[.slice A1 r.by_.length d1, .slice A2 r.start.length d2, .slice A3 s.by_.length d3, .slice A4 s.start.length d4] 49 (0, 0)) := by
    obtain ⟨g1, g2, g3⟩ := four w (.cells #[.slice A1 r.by_.length d1, .slice A2 r.start.length d2] 49) (.cells #[.slice A3 s.by_.length d3, .slice A4 s.start.length d4] 49) (.cells #[.slice none 0 0, .slice none 0 0] 49) (.cells #[.slice A1 r.by_.length d1, .slice A2 r.start.length d2, .slice A3 s.by_.length d3, .slice A4 s.start.length d4] 49)
    obtain ⟨g0, -, -⟩ := three w (.cells #[.slice A1 r.by_.length d1, .slice A2 r.start.length d2] 49) (.cells #[.slice A3 s.by_.length d3, .slice A4 s.start.length d4] 49) (.cells #[.slice none 0 0, .slice none 0 0] 49)
    refine ⟨_, rfl, by simp, ((((Below.refl _ w).alloc (Nat.le_refl _) _).alloc (by simp) _).alloc (by simp; omega) _).alloc (by simp; omega) _, (Below.heap_alloc _ _ _ (by simp; omega)).trans g0, g1, g2, g3⟩
  have hbo := Lib.hid (both_any r s (w.heap.size + 3) _ _ _ _ X (hv'.below hBX (Nat.le_refl _)) (hu'.below hBX (Nat.le_refl _)) hx3)
  have hv1 := Lib.hid (fun W (hW : Below w.heap.size w W) => hv'.below hW (Nat.le_refl _))
  have hu1 := Lib.hid (fun W (hW : Below w.heap.size w W) => hu'.below hW (Nat.le_refl _))
  have hJ1 := Lib.hid (fun W (hW : Below w.heap.size w W) => hJ.below hW)
  replace hX := Lib.hid hX
  clear hv' hu' ra1 rb1 ra2 rb2 hx3 hJ
  by_cases h0 : bothR r s = 0
  · obtain ⟨hr1, hr2⟩ := bothR_ok h0
    have o1 := (rightR_ok hr1).1
    have o2 := (rightR_ok hr2).1
    have hs1 := (rightR_ok hr1).2.2.2
    have hs2 := (rightR_ok hr2).2.2.2
    rw [h0] at hbo
    have hln1 := Lib.hid (fun W hW => lined_line r A1 A2 _ _ d1 d2 W (hv1.out W hW))
    have hln2 := Lib.hid (fun W hW => lined_line s A3 A4 _ _ d3 d4 W (hu1.out W hW))
    obtain ⟨o, ho⟩ : ∃ o, joinO h r.by_.length s.by_.length = o := ⟨_, rfl⟩
    have ho144 : o ≤ 144 := by
      rw [← ho, joinO]
      have := Nat.mul_le_mul o1 o2
      split <;> omega
    have hlo := Lib.hid (fun W => hlong r.by_.length s.by_.length W o1 o2)
    rw [ho] at hlo
    obtain ⟨L, hL⟩ : ∃ L, 2 * o = L := ⟨_, rfl⟩
    have hLi : 2 * (o : Int) = (L : Int) := by omega
    have hwL : IntKind.i64.wrap (L : Int) = (L : Int) := IntWalk.i64_in _ ⟨by omega, by omega⟩
    have hfi1 := Lib.hid (fun v a b g W hL => first_any r L v a b g W hr1 hL (by omega))
    have hfi2 := Lib.hid (fun v a b g W hL => first_any s L v a b g W hr2 hL (by omega))
    obtain ⟨M, hM⟩ : ∃ M, min o 12 = M := ⟨_, rfl⟩
    have hMi : min (o : Int) 12 = (M : Int) := by omega
    have hM12 : M ≤ 12 := by omega
    have hjl : joinL h r s = (List.range L).map (joinT h (firstL r L) (firstL s L)) := by rw [joinL, ho, hL]
    have hA0 := Lib.hid (fun hf => joinR_none (h := h) h0 ho hjl hM hf)
    have hA1 := Lib.hid (fun t hf => joinR_some (h := h) (t := t) h0 ho hjl hM hf)
    have hfl1 := firstL_len r L
    have hfl2 := firstL_len s L
    have hfb1 := firstL_bd hs1 L
    have hfb2 := firstL_bd hs2 L
    have hL288 : L ≤ 288 := by omega
    replace hBX := Lib.hid hBX
    generalize r.by_.length = n1 at *
    generalize s.by_.length = n3 at *
    generalize r.start.length = n2 at *
    generalize s.start.length = n4 at *
    generalize hfa : firstL r L = fa at *
    generalize hfb : firstL s L = fb at *
    have hte := Lib.hid (fun (n : Nat) va vb W (hn : n < L) ra rb => hterm fa fb n va vb W hfb1 hfb2 (by omega) (by omega) (by omega) ra rb)
    have hfi := Lib.hid (fun v W hO => fitting_any ((List.range L).map (joinT h fa fb)) M v W (by simp; omega) (by omega) (fun x hx => by
      obtain ⟨j, _, rfl⟩ := List.mem_map.1 hx
      exact joinT_bd h fa fb j) hO)
    clear h0 hr1 hr2 hfa hfb hs1 hs2 ho hM hL hjl hlong hterm hfb1 hfb2
    replace hfl1 := Lib.hid hfl1
    replace hfl2 := Lib.hid hfl2
    go_enter Tryd.func116, Tryd.ntmps116
    go_wp2_with fail
    rw [hX.out]
    refine hbo.out.mono ?_; rintro e W1 ⟨rfl, hB1⟩
    have hg0 := (hB1.block w.heap.size (by omega)).trans hx0
    have hg1 := (hB1.block (w.heap.size + 1) (by omega)).trans hx1
    have hg2 := Lib.hid ((hB1.block (w.heap.size + 2) (by omega)).trans hx2)
    have hBW := Lib.hid (Below.then_ hBX.out hB1)
    obtain ⟨c0, c1, -, -⟩ := ret_cell hg0
    obtain ⟨c2, c3, -, -⟩ := ret_cell hg1
    have hw1 : w.heap.size + 2 < W1.heap.size := (Array.getElem?_eq_some_iff.1 hg2.out).1
    obtain ⟨bm, cm, hm1, hm2⟩ := hJ1.out W1 hBW.out
    have hlk := hm2 W1 rfl
    clear hbo hg0 hg1 hx0 hx1 hx2 hm2 hJ1
    have hb9 : Below W1.heap.size W1 (W1.alloc (.cells #[.func (.func tf) #[] #[], .func (.func lf) #[] #[]] 139)) := (Below.refl _ _).alloc (Nat.le_refl _) _
    have hj9 : (W1.alloc (.cells #[.func (.func tf) #[] #[], .func (.func lf) #[] #[]] 139)).heap[W1.heap.size]? = some (.cells #[.func (.func tf) #[] #[], .func (.func lf) #[] #[]] 139 (0, 0)) := heap_alloc_new _ _
    replace c0 := (hb9.cell (p := ⟨w.heap.size, 0, none⟩) (by show w.heap.size < _; omega)).trans c0
    replace c1 := (hb9.cell (p := ⟨w.heap.size, 1, none⟩) (by show w.heap.size < _; omega)).trans c1
    replace c2 := (hb9.cell (p := ⟨w.heap.size + 1, 0, none⟩) (by show w.heap.size + 1 < _; omega)).trans c2
    replace c3 := (hb9.cell (p := ⟨w.heap.size + 1, 1, none⟩) (by show w.heap.size + 1 < _; omega)).trans c3
    have hw9 : W1.heap.size < (W1.alloc (.cells #[.func (.func tf) #[] #[], .func (.func lf) #[] #[]] 139)).heap.size := by simp
    have hB9 := Lib.hid (Below.then_ hBW.out hb9)
    have hg9 := Lib.hid ((hb9.block (w.heap.size + 2) hw1).trans hg2.out)
    replace hj9 := Lib.hid hj9
    clear hb9 hg2 hBW hB1
    go_wp2_with fail
    generalize W1.alloc (.cells #[.func (.func tf) #[] #[], .func (.func lf) #[] #[]] 139) = W9 at *
    refine (hlo.out _).mono ?_; rintro e W ⟨rfl, rfl⟩
    have hj := W1.heap.size
    generalize W1.heap.size = jb at *
    have hwa : w.heap.size + 1 < W9.heap.size := by omega
    clear hj hlk hm1
    go_wp2
    refine D_begin (fun w' => TwoR w.heap.size (.slice A1 n1 d1) (.slice A2 n2 d2) (.slice A3 n3 d3) (.slice A4 n4 d4) w') (fun _ => True) 99 (by kernel_rfl) ?_
    change wpAnyD _ _ _ _ _ _ _ _ _ _ W9.drew
    simp only [List.size_toArray, List.length_cons, List.length_nil, Nat.reduceAdd, Array.replicate_succ, Array.replicate_zero, List.push_toArray, List.append_toArray, List.nil_append, List.cons_append]
    have HS : TwoR w.heap.size (.slice A1 n1 d1) (.slice A2 n2 d2) (.slice A3 n3 d3) (.slice A4 n4 d4) W9.drew := ⟨⟨c0, c1⟩, c2, c3⟩
    refine D_take (i := 0) (v := ?_) rfl (by kernel_rfl) (by kernel_rfl) (by kernel_rfl) (by kernel_rfl) (fun _ _ _ h => h) (Or.inl ⟨by rfl, ?_⟩) HS (fun _ => trivial) ?_
    rotate_left; · intro w1 hw1; obtain ⟨⟨hw1, hw2⟩, hw3, hw4⟩ := hw1; go_simp; try with_reducible rfl
    try simp only [Act.put, List.getElem_toArray, List.getElem_cons_zero, List.getElem_cons_succ, List.setIfInBounds_toArray, List.set_cons_zero, List.set_cons_succ]
    refine D_take (i := 2) (v := ?_) rfl (by kernel_rfl) (by kernel_rfl) (by kernel_rfl) (by kernel_rfl) (fun _ _ _ h => h) (Or.inl ⟨by rfl, ?_⟩) HS (fun _ => trivial) ?_
    rotate_left; · intro w1 hw1; obtain ⟨⟨hw1, hw2⟩, hw3, hw4⟩ := hw1; go_simp; try with_reducible rfl
    try simp only [Act.put, List.getElem_toArray, List.getElem_cons_zero, List.getElem_cons_succ, List.setIfInBounds_toArray, List.set_cons_zero, List.set_cons_succ]
    refine D_take (i := 3) (v := ?_) rfl (by kernel_rfl) (by kernel_rfl) (by kernel_rfl) (by kernel_rfl) (fun _ _ _ h => h) (Or.inl ⟨by rfl, ?_⟩) HS (fun _ => trivial) ?_
    rotate_left; · intro w1 hw1; obtain ⟨⟨hw1, hw2⟩, hw3, hw4⟩ := hw1; go_simp; try with_reducible rfl
    try simp only [Act.put, List.getElem_toArray, List.getElem_cons_zero, List.getElem_cons_succ, List.setIfInBounds_toArray, List.set_cons_zero, List.set_cons_succ]
    refine D_take (i := 5) (v := ?_) rfl (by kernel_rfl) (by kernel_rfl) (by kernel_rfl) (by kernel_rfl) (fun _ _ _ h => h) (Or.inl ⟨by rfl, ?_⟩) HS (fun _ => trivial) ?_
    rotate_left; · intro w1 hw1; obtain ⟨⟨hw1, hw2⟩, hw3, hw4⟩ := hw1; go_simp; try with_reducible rfl
    try simp only [Act.put, List.getElem_toArray, List.getElem_cons_zero, List.getElem_cons_succ, List.setIfInBounds_toArray, List.set_cons_zero, List.set_cons_succ]
    refine D_take (i := 7) (v := ?_) rfl (by kernel_rfl) (by kernel_rfl) (by kernel_rfl) (by kernel_rfl) (fun _ _ _ h => h) (Or.inl ⟨by rfl, ?_⟩) HS (fun _ => trivial) ?_
    rotate_left; · intro w1 hw1; obtain ⟨⟨hw1, hw2⟩, hw3, hw4⟩ := hw1; go_simp; try with_reducible rfl
    try simp only [Act.put, List.getElem_toArray, List.getElem_cons_zero, List.getElem_cons_succ, List.setIfInBounds_toArray, List.set_cons_zero, List.set_cons_succ]
    refine D_take (i := 8) (v := ?_) rfl (by kernel_rfl) (by kernel_rfl) (by kernel_rfl) (by kernel_rfl) (fun _ _ _ h => h) (Or.inl ⟨by rfl, ?_⟩) HS (fun _ => trivial) ?_
    rotate_left; · intro w1 hw1; obtain ⟨⟨hw1, hw2⟩, hw3, hw4⟩ := hw1; go_simp; try with_reducible rfl
    try simp only [Act.put, List.getElem_toArray, List.getElem_cons_zero, List.getElem_cons_succ, List.setIfInBounds_toArray, List.set_cons_zero, List.set_cons_succ]
    refine D_one (i := 1) (by kernel_rfl) rfl ?_
    intro K hK
    rw [if_pos (by rfl)]
    go_wp2_with fail
    refine (hln1.out W9.drew hB9.out.drew).mono ?_; rintro e W2 ⟨rfl, hL1, hB2⟩
    have HS2 := HS.keep hwa hB2
    refine hK _ _ HS2 (fun _ _ => trivial) ?_
    clear hK K
    try simp only [Act.put, List.getElem_toArray, List.getElem_cons_zero, List.getElem_cons_succ, List.setIfInBounds_toArray, List.set_cons_zero, List.set_cons_succ]
    refine D_one (i := 4) (by kernel_rfl) rfl ?_
    intro K hK
    rw [if_pos (by rfl)]
    go_wp2_with fail
    refine (hfi1.out _ _ _ _ W2 hL1).mono ?_; rintro e W3 ⟨⟨va, rfl, hO1⟩, hB3⟩
    have hw2 : w.heap.size + 1 < W2.heap.size := Nat.lt_of_lt_of_le hwa hB2.size
    have HS3 := HS2.keep hw2 hB3
    have hw3 : w.heap.size + 1 < W3.heap.size := Nat.lt_of_lt_of_le hw2 hB3.size
    have hBc := Below.then_ (hB9.out.drew) ((Below.then_ hB2 hB3))
    obtain ⟨Aa, ca, rfl⟩ : ∃ A c, va = .slice A L c := by have h := hO1; unfold OwnI at h; rw [hfl1.out] at h; exact own_form h
    refine hK _ _ HS3 (fun _ _ => trivial) ?_
    clear hK K
    try simp only [Act.put, List.getElem_toArray, List.getElem_cons_zero, List.getElem_cons_succ, List.setIfInBounds_toArray, List.set_cons_zero, List.set_cons_succ]
    refine D_one (i := 6) (by kernel_rfl) rfl ?_
    intro K hK
    rw [if_pos (by rfl)]
    go_wp2_with fail
    refine (hln2.out W3 hBc).mono ?_; rintro e W4 ⟨rfl, hL2, hB4⟩
    have HS4 := HS3.keep hw3 hB4
    have hw4 : w.heap.size + 1 < W4.heap.size := Nat.lt_of_lt_of_le hw3 hB4.size
    refine hK _ _ HS4 (fun _ _ => trivial) ?_
    clear hK K
    try simp only [Act.put, List.getElem_toArray, List.getElem_cons_zero, List.getElem_cons_succ, List.setIfInBounds_toArray, List.set_cons_zero, List.set_cons_succ]
    refine D_one (i := 9) (by kernel_rfl) rfl ?_
    intro K hK
    rw [if_pos (by rfl)]
    go_wp2_with fail
    refine (hfi2.out _ _ _ _ W4 hL2).mono ?_; rintro e W5 ⟨⟨vb, rfl, hO2⟩, hB5⟩
    have HS5 := HS4.keep hw4 hB5
    obtain ⟨Ab, cb, rfl⟩ : ∃ A c, vb = .slice A L c := by have h := hO2; unfold OwnI at h; rw [hfl2.out] at h; exact own_form h
    refine hK _ _ HS5 (fun _ _ => trivial) ?_
    clear hK K
    try simp only [Act.put, List.getElem_toArray, List.getElem_cons_zero, List.getElem_cons_succ, List.setIfInBounds_toArray, List.set_cons_zero, List.set_cons_succ]
    refine D_take (i := 10) (v := ?_) rfl (by kernel_rfl) (by kernel_rfl) (by kernel_rfl) (by kernel_rfl) (fun _ _ _ h => h) (Or.inl ⟨by rfl, ?_⟩) HS5 (fun _ => trivial) ?_
    rotate_left; · intro w1 hw1; obtain ⟨⟨hw1, hw2⟩, hw3, hw4⟩ := hw1; go_simp; try with_reducible rfl
    try simp only [Act.put, List.getElem_toArray, List.getElem_cons_zero, List.getElem_cons_succ, List.setIfInBounds_toArray, List.set_cons_zero, List.set_cons_succ]
    refine D_take (i := 11) (v := ?_) rfl (by kernel_rfl) (by kernel_rfl) (by kernel_rfl) (by kernel_rfl) (fun _ _ _ h => h) (Or.inl ⟨by rfl, ?_⟩) HS5 (fun _ => trivial) ?_
    rotate_left; · intro w1 hw1; obtain ⟨⟨hw1, hw2⟩, hw3, hw4⟩ := hw1; go_simp; try with_reducible rfl
    try simp only [Act.put, List.getElem_toArray, List.getElem_cons_zero, List.getElem_cons_succ, List.setIfInBounds_toArray, List.set_cons_zero, List.set_cons_succ]
    refine D_done (by kernel_rfl) ?_ _
    have hB25 : Below W9.drew.heap.size W9.drew W5 := Below.then_ hB2 (Below.then_ hB3 (Below.then_ hB4 hB5))
    have hBE : Hid (Below w.heap.size w W5) := Lib.hid (Below.then_ hB9.out.drew hB25)
    have hOa : Hid (OwnI W5 0 (.slice Aa L ca) fa) := Lib.hid (((hO1.below hB4).below hB5).base (Nat.zero_le _))
    have hOb : Hid (OwnI W5 0 (.slice Ab L cb) fb) := Lib.hid (hO2.base (Nat.zero_le _))
    have hj5 : Hid (W5.heap[jb]? = some (.cells #[.func (.func tf) #[] #[], .func (.func lf) #[] #[]] 139 (0, 0))) := Lib.hid ((hB25.block jb hw9).trans hj9.out)
    have hg5 : Hid (W5.heap[w.heap.size + 2]? = some (.cells #[.slice none 0 0, .slice none 0 0] 49 (0, 0))) := Lib.hid ((hB25.block _ (Array.getElem?_eq_some_iff.1 hg9.out).1).trans hg9.out)
    have hmk := run_make_row' (P := Tryd.prog) 23 3 _ _ Tryd.underlying23 infoI rfl .i64 .i64 L (by omega) (by omega)
    have hB6 : Below W5.heap.size W5 (W5.alloc (.cells (madeCells #[.int .i64 0] L) 3)) := (Below.refl _ _).alloc (Nat.le_refl _) _
    have hx6 := OwnI_made W5 W5.heap.size L (Nat.le_refl _) (by unfold maxLen; omega)
    rw [← jnP_zero h fa fb L] at hx6
    replace hx6 := Lib.hid hx6
    replace hB6 := Lib.hid hB6
    clear HS HS2 HS3 HS4 HS5 hO1 hO2 hB2 hB3 hB4 hB5 hL1 hL2 hln1 hln2 hfi1 hfi2 hw2 hw3 hw4 hv1 hu1 c0 c1 c2 c3 hX hB25 hBc hj9 hg9 hB9
    go_wp2
    generalize W5.alloc (.cells (madeCells #[.int .i64 0] L) 3) = W6 at hx6 hB6 ⊢
    go_loopw [14, 52] (fun _ i wr => ∃ k : Nat, k ≤ L ∧ i = .int .i64 k ∧ Hid (Below W5.heap.size W5 wr) ∧ Hid (OwnI wr W5.heap.size (.slice (some ⟨W5.heap.size, 0, none⟩) L L) (jnP h fa fb L k))) (fun _ i _ => L - (intOf i).toNat)
    case atStart => exact ⟨0, Nat.zero_le _, rfl, hB6, hx6⟩
    case round =>
      obtain ⟨k, hk, rfl, hB, hM⟩ := hrel
      by_cases hlt : k < L
      · have cj : wr.cell? ⟨jb, 0, none⟩ = some (.func (.func tf) #[] #[]) := by unfold World.cell?; rw [hB.out.block jb (Array.getElem?_eq_some_iff.1 hj5.out).1, hj5.out]; rfl
        have hcall := Lib.hid (hte.out k _ _ wr hlt ((hOa.out.below hB.out).rd (by rw [hfl1.out]; omega)) ((hOb.out.below hB.out).rd (by rw [hfl2.out]; omega)))
        have k1 : (k : Int) < (L : Int) := by omega
        have k0 : (0 : Int) ≤ (k : Int) := by omega
        go_wp2_with fail
        refine hcall.out.mono ?_; rintro e W7 ⟨rfl, hB7⟩
        have hM7 := hM.out.below hB7
        obtain ⟨hc, hf⟩ := hM7.num (k := k) (by rw [jnP_len]; exact hlt)
        have hup := hM7.put k (joinT h fa fb k)
        rw [jnP_set] at hup
        replace hup := Lib.hid hup
        have hB8 := Lib.hid ((Below.then_ hB.out hB7).setCell (p := ⟨W5.heap.size, k, none⟩) (Nat.le_refl _) (.int .i64 (joinT h fa fb k)))
        generalize (jnP h fa fb L k).getD k 0 = x at hc
        clear hM7 hB7 cj
        go_wp2
        go_roundw
        case rel => exact ⟨k + 1, by omega, by go_num, hB8, hup⟩
        case measure => simp [intOf]; omega
      · obtain rfl : k = L := by omega
        have hrd := hM.out.rd (by rw [jnP_len]; omega)
        rw [jnP_end] at hrd
        have hcall := Lib.hid (hfi.out _ wr hrd)
        have hBw := Lib.hid (hBE.out.trans (hB.out.mono hBE.out.size))
        have hgw := Lib.hid ((hB.out.block _ (Array.getElem?_eq_some_iff.1 hg5.out).1).trans hg5.out)
        have hl2 : w.heap.size + 2 < wr.heap.size := (Array.getElem?_eq_some_iff.1 hgw.out).1
        clear hrd hM
        unfold FitRes at hcall
        generalize hfb' : (fitM ((List.range k).map (joinT h fa fb)) M).isSome = fbb at hcall
        replace hfb' := Lib.hid hfb'
        go_wp2_with fail
        refine hcall.out.mono ?_; rintro e W8 ⟨v, rfl, ⟨a, b, rfl, oa, ob⟩, hB8⟩
        obtain ⟨A5, c5, rfl⟩ : ∃ A c, a = .slice A ((fitM ((List.range k).map (joinT h fa fb)) M).getD ⟨[], []⟩).by_.length c := by have h := oa; unfold OwnI at h; exact own_form h
        obtain ⟨A6, c6, rfl⟩ : ∃ A c, b = .slice A ((fitM ((List.range k).map (joinT h fa fb)) M).getD ⟨[], []⟩).start.length c := by have h := ob; unfold OwnI at h; exact own_form h
        generalize ((fitM ((List.range k).map (joinT h fa fb)) M).getD ⟨[], []⟩).by_.length = n5 at *
        generalize ((fitM ((List.range k).map (joinT h fa fb)) M).getD ⟨[], []⟩).start.length = n6 at *
        have hbl : Below W8.heap.size W8 (W8.alloc (.cells #[.slice A5 n5 c5, .slice A6 n6 c6] 49)) := (Below.refl _ _).alloc (Nat.le_refl _) _
        have hg8 := (hbl.block (w.heap.size + 2) (by have := hB8.size; omega)).trans ((hB8.block (w.heap.size + 2) hl2).trans hgw.out)
        obtain ⟨d0, d1', d2', d3'⟩ := ret_cell hg8
        replace hg8 := Lib.hid hg8
        have hgn : (W8.alloc (.cells #[.slice A5 n5 c5, .slice A6 n6 c6] 49)).heap[W8.heap.size]? = some (.cells #[.slice A5 n5 c5, .slice A6 n6 c6] 49 (0, 0)) := heap_alloc_new _ _
        obtain ⟨d4', d5', -, -⟩ := ret_cell hgn
        have hBf := Lib.hid (Below.then_ (Below.then_ hBw.out hB8) hbl)
        replace oa := Lib.hid (oa.below hbl)
        replace ob := Lib.hid (ob.below hbl)
        clear hgn hbl hB8
        cases fbb with
        | false =>
          have hr := Lib.hid (hA0.out (Option.not_isSome_iff_eq_none.1 (by rw [hfb'.out]; decide)))
          go_wp2
          refine bodyPost_ret (res_ct rfl _ _ (w.heap.size + 2) 49 #[.slice none 0 0, .slice none 0 0] (0, 0) _ rfl (heap_set2 _ _ hg8.out) rfl rfl rfl) rfl ?_
          rw [hr.out]
          exact ⟨_, rfl, ⟨_, _, rfl, OwnI_nil _ _, OwnI_nil _ _⟩, (hBf.out.setCell (p := ⟨w.heap.size + 2, 0, none⟩) (by simp) _).setCell (p := ⟨w.heap.size + 2, 1, none⟩) (by simp) _⟩
        | true =>
          obtain ⟨rr, hf⟩ := Option.isSome_iff_exists.1 hfb'.out
          have hr := Lib.hid (hA1.out rr hf)
          rw [hf] at oa ob
          replace hf := Lib.hid hf
          go_wp2
          refine bodyPost_ret (res_ct rfl _ _ (w.heap.size + 2) 49 #[.slice A5 n5 c5, .slice A6 n6 c6] (0, 0) _ rfl (heap_set2 _ _ hg8.out) rfl rfl rfl) rfl ?_
          rw [hr.out]
          exact ⟨_, rfl, ⟨_, _, rfl, own_two oa.out (by omega) hl2 _ _, own_two ob.out (by omega) hl2 _ _⟩, (hBf.out.setCell (p := ⟨w.heap.size + 2, 0, none⟩) (by simp) _).setCell (p := ⟨w.heap.size + 2, 1, none⟩) (by simp) _⟩
  · have hr := Lib.hid (joinR_err (h := h) (s := s) rfl h0)
    have hne : (bothR r s != 0) = true := by rw [bne_iff_ne]; exact h0
    have hca := Lib.hid (bothR_cases r s)
    generalize bothR r s = x at *
    clear h0
    go_enter Tryd.func116, Tryd.ntmps116
    go_wp2_with fail
    rw [hX.out]
    refine hbo.out.mono ?_; rintro e W1 ⟨rfl, hB1⟩
    have hg2 := (hB1.block (w.heap.size + 2) (by omega)).trans hx2
    obtain ⟨d0, d1', d2', d3'⟩ := ret_cell hg2
    replace hg2 := Lib.hid hg2
    have hB2 := Lib.hid (Below.then_ hBX hB1)
    clear hx0 hx1 hx2
    go_wp2
    refine bodyPost_ret (res_ct rfl _ _ (w.heap.size + 2) 49 #[.slice none 0 0, .slice none 0 0] (0, 0) _ rfl (heap_set2 _ _ hg2.out) rfl rfl rfl) rfl ?_
    rw [hr.out]
    exact ⟨_, rfl, ⟨_, _, rfl, OwnI_nil _ _, OwnI_nil _ _⟩, (hB2.out.setCell (p := ⟨w.heap.size + 2, 0, none⟩) (by simp) _).setCell (p := ⟨w.heap.size + 2, 1, none⟩) (by simp) _⟩
end Go.Proofs.YtfljkcmijnhgkaaDoor

namespace Go.Proofs.YtfljkcmijnhgkaaDoor
open Go.RowKit Go.Shelf
set_option linter.unusedSimpArgs false
def kSum : ByteArray := ⟨#[115, 117, 109]⟩
def kTimes : ByteArray := ⟨#[116, 105, 109, 101, 115]⟩
def kFolded : ByteArray := ⟨#[102, 111, 108, 100, 101, 100]⟩
/-- The table joins is as the program's text lays it. -/
def Joins (W : World) : Prop := JoinAt W kSum 170 172 ∧ JoinAt W kTimes 173 174 ∧ JoinAt W kFolded 175 176
theorem Joins.below {W W' : World} (h : Joins W) (hb : Below W.heap.size W W') : Joins W' := ⟨h.1.below hb, h.2.1.below hb, h.2.2.below hb⟩
set_option maxRecDepth 100000 in
set_option maxHeartbeats 800000 in
theorem Sum_any (r s : Rule) (v u : Value) (w : World) (hv : RdR w v r) (hu : RdR w u s) (hJ : Joins w) :
    Calls Tryd.prog 40 #[v, u] w (RuleOut (joinR 0 r s) w) := by
  have hv' := hv
  have hu' := hu
  obtain ⟨a1, b1, rfl, ra1, rb1⟩ := hv
  obtain ⟨a2, b2, rfl, ra2, rb2⟩ := hu
  obtain ⟨A1, d1, rfl, -⟩ := ra1.open_
  obtain ⟨A2, d2, rfl, -⟩ := rb1.open_
  obtain ⟨A3, d3, rfl, -⟩ := ra2.open_
  obtain ⟨A4, d4, rfl, -⟩ := rb2.open_
  obtain ⟨X, hX, hsX, hBX, hx2⟩ : ∃ X, ((w.alloc (.cells #[.slice A1 r.by_.length d1, .slice A2 r.start.length d2] 49)).alloc (.cells #[.slice A3 s.by_.length d3, .slice A4 s.start.length d4] 49)).alloc (.cells #[.slice none 0 0, .slice none 0 0] 49) = X ∧ X.heap.size = w.heap.size + 3 ∧ Below w.heap.size w X ∧ X.heap[w.heap.size + 2]? = some (.cells #[.slice none 0 0, .slice none 0 0] 49 (0, 0)) := by
    obtain ⟨-, -, g2⟩ := three w (.cells #[.slice A1 r.by_.length d1, .slice A2 r.start.length d2] 49) (.cells #[.slice A3 s.by_.length d3, .slice A4 s.start.length d4] 49) (.cells #[.slice none 0 0, .slice none 0 0] 49)
    exact ⟨_, rfl, by simp, (((Below.refl _ w).alloc (Nat.le_refl _) _).alloc (by simp) _).alloc (by simp; omega) _, g2⟩
  have hc : Calls Tryd.prog 116 #[.agg #[.slice A1 r.by_.length d1, .slice A2 r.start.length d2], .agg #[.slice A3 s.by_.length d3, .slice A4 s.start.length d4], .string ⟨#[115, 117, 109]⟩] X (RuleOut (joinR 0 r s) X) :=
    joined_any 0 kSum 170 172 r s _ _ X (hv'.below hBX (Nat.le_refl _)) (hu'.below hBX (Nat.le_refl _)) (hJ.below hBX).1 (enters_of Tryd.func170 (by kernel_rfl) rfl) (enters_of Tryd.func172 (by kernel_rfl) rfl)
      (fun m n W hm hn => by have h := joins_2 m n W hm hn; simpa [joinO] using h) (fun a b n va vb W ha hb h1 h2 h3 ra rb => joins_1 a b n va vb W ha hb h1 h2 ra rb)
  replace hc := Lib.hid hc
  replace hX := Lib.hid hX
  clear hv' hu' ra1 rb1 ra2 rb2 hJ
  generalize r.by_.length = n1 at *
  generalize s.by_.length = n3 at *
  generalize r.start.length = n2 at *
  generalize s.start.length = n4 at *
  go_enter Tryd.func40, Tryd.ntmps40
  go_wp2_with fail
  rw [hX.out]
  refine hc.out.mono ?_; rintro e W1 ⟨v, rfl, ⟨a, b, rfl, oa, ob⟩, hB1⟩
  obtain ⟨A5, c5, rfl⟩ : ∃ A c, a = .slice A (joinR 0 r s).1.by_.length c := by have h := oa; unfold OwnI at h; exact own_form h
  obtain ⟨A6, c6, rfl⟩ : ∃ A c, b = .slice A (joinR 0 r s).1.start.length c := by have h := ob; unfold OwnI at h; exact own_form h
  generalize joinR 0 r s = R at *
  have hg := (hB1.block (w.heap.size + 2) (by omega)).trans hx2
  obtain ⟨e0, e1', e2', e3'⟩ := ret_cell hg
  replace hg := Lib.hid hg
  have hB2 := Lib.hid (Below.then_ hBX hB1)
  replace oa := Lib.hid oa
  replace ob := Lib.hid ob
  clear hB1 hx2 hc
  go_wp2
  refine bodyPost_ret (res_ct rfl _ _ (w.heap.size + 2) 49 #[.slice A5 R.1.by_.length c5, .slice A6 R.1.start.length c6] (0, 0) _ rfl (heap_set2 _ _ hg.out) rfl rfl rfl) rfl ?_
  exact ⟨_, rfl, ⟨_, _, rfl, own_two oa.out (by omega) (by omega) _ _, own_two ob.out (by omega) (by omega) _ _⟩, (hB2.out.setCell (p := ⟨w.heap.size + 2, 0, none⟩) (by simp) _).setCell (p := ⟨w.heap.size + 2, 1, none⟩) (by simp) _⟩
set_option maxRecDepth 100000 in
set_option maxHeartbeats 800000 in
theorem Times_any (r s : Rule) (v u : Value) (w : World) (hv : RdR w v r) (hu : RdR w u s) (hJ : Joins w) :
    Calls Tryd.prog 41 #[v, u] w (RuleOut (joinR 1 r s) w) := by
  have hv' := hv
  have hu' := hu
  obtain ⟨a1, b1, rfl, ra1, rb1⟩ := hv
  obtain ⟨a2, b2, rfl, ra2, rb2⟩ := hu
  obtain ⟨A1, d1, rfl, -⟩ := ra1.open_
  obtain ⟨A2, d2, rfl, -⟩ := rb1.open_
  obtain ⟨A3, d3, rfl, -⟩ := ra2.open_
  obtain ⟨A4, d4, rfl, -⟩ := rb2.open_
  obtain ⟨X, hX, hsX, hBX, hx2⟩ : ∃ X, ((w.alloc (.cells #[.slice A1 r.by_.length d1, .slice A2 r.start.length d2] 49)).alloc (.cells #[.slice A3 s.by_.length d3, .slice A4 s.start.length d4] 49)).alloc (.cells #[.slice none 0 0, .slice none 0 0] 49) = X ∧ X.heap.size = w.heap.size + 3 ∧ Below w.heap.size w X ∧ X.heap[w.heap.size + 2]? = some (.cells #[.slice none 0 0, .slice none 0 0] 49 (0, 0)) := by
    obtain ⟨-, -, g2⟩ := three w (.cells #[.slice A1 r.by_.length d1, .slice A2 r.start.length d2] 49) (.cells #[.slice A3 s.by_.length d3, .slice A4 s.start.length d4] 49) (.cells #[.slice none 0 0, .slice none 0 0] 49)
    exact ⟨_, rfl, by simp, (((Below.refl _ w).alloc (Nat.le_refl _) _).alloc (by simp) _).alloc (by simp; omega) _, g2⟩
  have hc : Calls Tryd.prog 116 #[.agg #[.slice A1 r.by_.length d1, .slice A2 r.start.length d2], .agg #[.slice A3 s.by_.length d3, .slice A4 s.start.length d4], .string ⟨#[116, 105, 109, 101, 115]⟩] X (RuleOut (joinR 1 r s) X) :=
    joined_any 1 kTimes 173 174 r s _ _ X (hv'.below hBX (Nat.le_refl _)) (hu'.below hBX (Nat.le_refl _)) (hJ.below hBX).2.1 (enters_of Tryd.func173 (by kernel_rfl) rfl) (enters_of Tryd.func174 (by kernel_rfl) rfl)
      (fun m n W hm hn => by have h := joins_4 m n W hm hn; simpa [joinO] using h) (fun a b n va vb W ha hb h1 h2 h3 ra rb => joins_3 a b n va vb W ha hb h1 h2 ra rb)
  replace hc := Lib.hid hc
  replace hX := Lib.hid hX
  clear hv' hu' ra1 rb1 ra2 rb2 hJ
  generalize r.by_.length = n1 at *
  generalize s.by_.length = n3 at *
  generalize r.start.length = n2 at *
  generalize s.start.length = n4 at *
  go_enter Tryd.func41, Tryd.ntmps41
  go_wp2_with fail
  rw [hX.out]
  refine hc.out.mono ?_; rintro e W1 ⟨v, rfl, ⟨a, b, rfl, oa, ob⟩, hB1⟩
  obtain ⟨A5, c5, rfl⟩ : ∃ A c, a = .slice A (joinR 1 r s).1.by_.length c := by have h := oa; unfold OwnI at h; exact own_form h
  obtain ⟨A6, c6, rfl⟩ : ∃ A c, b = .slice A (joinR 1 r s).1.start.length c := by have h := ob; unfold OwnI at h; exact own_form h
  generalize joinR 1 r s = R at *
  have hg := (hB1.block (w.heap.size + 2) (by omega)).trans hx2
  obtain ⟨e0, e1', e2', e3'⟩ := ret_cell hg
  replace hg := Lib.hid hg
  have hB2 := Lib.hid (Below.then_ hBX hB1)
  replace oa := Lib.hid oa
  replace ob := Lib.hid ob
  clear hB1 hx2 hc
  go_wp2
  refine bodyPost_ret (res_ct rfl _ _ (w.heap.size + 2) 49 #[.slice A5 R.1.by_.length c5, .slice A6 R.1.start.length c6] (0, 0) _ rfl (heap_set2 _ _ hg.out) rfl rfl rfl) rfl ?_
  exact ⟨_, rfl, ⟨_, _, rfl, own_two oa.out (by omega) (by omega) _ _, own_two ob.out (by omega) (by omega) _ _⟩, (hB2.out.setCell (p := ⟨w.heap.size + 2, 0, none⟩) (by simp) _).setCell (p := ⟨w.heap.size + 2, 1, none⟩) (by simp) _⟩
set_option maxRecDepth 100000 in
set_option maxHeartbeats 800000 in
theorem Folded_any (r s : Rule) (v u : Value) (w : World) (hv : RdR w v r) (hu : RdR w u s) (hJ : Joins w) :
    Calls Tryd.prog 42 #[v, u] w (RuleOut (joinR 2 r s) w) := by
  have hv' := hv
  have hu' := hu
  obtain ⟨a1, b1, rfl, ra1, rb1⟩ := hv
  obtain ⟨a2, b2, rfl, ra2, rb2⟩ := hu
  obtain ⟨A1, d1, rfl, -⟩ := ra1.open_
  obtain ⟨A2, d2, rfl, -⟩ := rb1.open_
  obtain ⟨A3, d3, rfl, -⟩ := ra2.open_
  obtain ⟨A4, d4, rfl, -⟩ := rb2.open_
  obtain ⟨X, hX, hsX, hBX, hx2⟩ : ∃ X, ((w.alloc (.cells #[.slice A1 r.by_.length d1, .slice A2 r.start.length d2] 49)).alloc (.cells #[.slice A3 s.by_.length d3, .slice A4 s.start.length d4] 49)).alloc (.cells #[.slice none 0 0, .slice none 0 0] 49) = X ∧ X.heap.size = w.heap.size + 3 ∧ Below w.heap.size w X ∧ X.heap[w.heap.size + 2]? = some (.cells #[.slice none 0 0, .slice none 0 0] 49 (0, 0)) := by
    obtain ⟨-, -, g2⟩ := three w (.cells #[.slice A1 r.by_.length d1, .slice A2 r.start.length d2] 49) (.cells #[.slice A3 s.by_.length d3, .slice A4 s.start.length d4] 49) (.cells #[.slice none 0 0, .slice none 0 0] 49)
    exact ⟨_, rfl, by simp, (((Below.refl _ w).alloc (Nat.le_refl _) _).alloc (by simp) _).alloc (by simp; omega) _, g2⟩
  have hc : Calls Tryd.prog 116 #[.agg #[.slice A1 r.by_.length d1, .slice A2 r.start.length d2], .agg #[.slice A3 s.by_.length d3, .slice A4 s.start.length d4], .string ⟨#[102, 111, 108, 100, 101, 100]⟩] X (RuleOut (joinR 2 r s) X) :=
    joined_any 2 kFolded 175 176 r s _ _ X (hv'.below hBX (Nat.le_refl _)) (hu'.below hBX (Nat.le_refl _)) (hJ.below hBX).2.2 (enters_of Tryd.func175 (by kernel_rfl) rfl) (enters_of Tryd.func176 (by kernel_rfl) rfl)
      (fun m n W hm hn => by have h := joins_6 m n W hm hn; simpa [joinO] using h) (fun a b n va vb W ha hb h1 h2 h3 ra rb => joins_5 a b n va vb W ha hb h1 h2 h3 ra rb)
  replace hc := Lib.hid hc
  replace hX := Lib.hid hX
  clear hv' hu' ra1 rb1 ra2 rb2 hJ
  generalize r.by_.length = n1 at *
  generalize s.by_.length = n3 at *
  generalize r.start.length = n2 at *
  generalize s.start.length = n4 at *
  go_enter Tryd.func42, Tryd.ntmps42
  go_wp2_with fail
  rw [hX.out]
  refine hc.out.mono ?_; rintro e W1 ⟨v, rfl, ⟨a, b, rfl, oa, ob⟩, hB1⟩
  obtain ⟨A5, c5, rfl⟩ : ∃ A c, a = .slice A (joinR 2 r s).1.by_.length c := by have h := oa; unfold OwnI at h; exact own_form h
  obtain ⟨A6, c6, rfl⟩ : ∃ A c, b = .slice A (joinR 2 r s).1.start.length c := by have h := ob; unfold OwnI at h; exact own_form h
  generalize joinR 2 r s = R at *
  have hg := (hB1.block (w.heap.size + 2) (by omega)).trans hx2
  obtain ⟨e0, e1', e2', e3'⟩ := ret_cell hg
  replace hg := Lib.hid hg
  have hB2 := Lib.hid (Below.then_ hBX hB1)
  replace oa := Lib.hid oa
  replace ob := Lib.hid ob
  clear hB1 hx2 hc
  go_wp2
  refine bodyPost_ret (res_ct rfl _ _ (w.heap.size + 2) 49 #[.slice A5 R.1.by_.length c5, .slice A6 R.1.start.length c6] (0, 0) _ rfl (heap_set2 _ _ hg.out) rfl rfl rfl) rfl ?_
  exact ⟨_, rfl, ⟨_, _, rfl, own_two oa.out (by omega) (by omega) _ _, own_two ob.out (by omega) (by omega) _ _⟩, (hB2.out.setCell (p := ⟨w.heap.size + 2, 0, none⟩) (by simp) _).setCell (p := ⟨w.heap.size + 2, 1, none⟩) (by simp) _⟩
end Go.Proofs.YtfljkcmijnhgkaaDoor
