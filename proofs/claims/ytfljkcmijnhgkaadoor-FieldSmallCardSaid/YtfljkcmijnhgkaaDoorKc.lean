/- made, and what it makes. identity, product, raised: their contracts. square, Mul, Power: their contracts. -/
import Derived.Test.YtfljkcmijnhgkaaDoorKa
import Derived.Shelf.Abstract
import Derived.Deep.RegionHeld3
import Derived.Deep.RegionLaw
import Derived.Deep.OwnRows
import Derived.StillTailTactics
import Derived.Test.YtfljkcmijnhgkaaDoorKb
namespace Go.Proofs.YtfljkcmijnhgkaaDoor
open Go.RowKit Go.Shelf
/-- The same, rows before i done, k places of row i. -/
def partM (f : Nat → Nat → Int) (n m i k : Nat) : List (List Int) := (List.range n).map fun j => if j < i then (List.range m).map (f j) else if j = i then (List.range k).map (f i) else []
theorem partM_len (f : Nat → Nat → Int) (n m i k : Nat) : (partM f n m i k).length = n := by simp [partM]
theorem partM_zero (f : Nat → Nat → Int) (n m : Nat) : partM f n m 0 0 = List.replicate n [] := by
  apply List.ext_getElem?; intro j
  simp only [partM, List.getElem?_map, List.getElem?_replicate]
  by_cases hj : j < n
  · rw [List.getElem?_range hj]; simp [hj]
  · rw [List.getElem?_eq_none (by simp; omega), if_neg hj]; rfl
theorem partM_row (f : Nat → Nat → Int) (n m i : Nat) : partM f n m i m = partM f n m (i + 1) 0 := by
  apply List.map_congr_left; intro j _
  by_cases h1 : j < i
  · rw [if_pos h1, if_pos (by omega)]
  · by_cases h2 : j = i
    · subst h2; rw [if_neg h1, if_pos rfl, if_pos (by omega)]
    · rw [if_neg h1, if_neg h2, if_neg (by omega)]; split <;> rfl
theorem partM_end (f : Nat → Nat → Int) (n m : Nat) : partM f n m n 0 = mat f n m := by
  apply List.map_congr_left; intro j hj
  rw [if_pos (by simpa using hj)]
theorem partM_get (f : Nat → Nat → Int) {n m i k : Nat} (hi : i < n) : (partM f n m i k)[i]? = some ((List.range k).map (f i)) := by
  simp [partM, List.getElem?_range hi]
theorem partM_set (f : Nat → Nat → Int) {n m i k : Nat} (hi : i < n) : (partM f n m i k).set i ((List.range k).map (f i) ++ [f i k]) = partM f n m i (k + 1) := by
  apply List.ext_getElem?; intro j
  by_cases hij : i = j
  · subst hij
    rw [List.getElem?_set_self (by rw [partM_len]; exact hi), partM_get f hi, List.range_succ, List.map_append]; rfl
  · rw [List.getElem?_set_ne hij]
    simp only [partM, List.getElem?_map]
    by_cases hj : j < n
    · rw [List.getElem?_range hj]
      simp only [Option.map_some]
      by_cases h1 : j < i
      · rw [if_pos h1, if_pos h1]
      · rw [if_neg h1, if_neg h1, if_neg (Ne.symm hij), if_neg (Ne.symm hij)]
    · rw [List.getElem?_eq_none (by simp; omega)]; rfl
theorem made_step (f : Nat → Nat → Int) {n m i k B gg cap : Nat} {w wr w1 : World} {u : Value} (hB : Below B w wr) (hM : OwnM wr B (.slice (some ⟨B, 0, none⟩) n n) (partM f n m i k)) (hlt : i < n) (hc : wr.cell? ⟨B, i, none⟩ = some u)
    (hou : OwnI wr B u ((List.range k).map (f i))) (hBw : B ≤ wr.heap.size)
    (hown1 : w1.ownsRow B 3 1 (.slice (some ⟨gg, 0, none⟩) (k + 1) cap) (k + 1) (ints ((List.range k).map (f i)) ++ [.int .i64 (f i k)]))
    (hgrow : ((wr.alloc (.cells #[.int .i64 (f i k)] 3)).drew).grownBy w1 u.ownBlock) (hat : u.ownBlock = some gg ∨ gg = wr.heap.size + 1) :
    Below B w (w1.setCell ⟨B, i, none⟩ (.slice (some ⟨gg, 0, none⟩) (k + 1) cap)) ∧ OwnM (w1.setCell ⟨B, i, none⟩ (.slice (some ⟨gg, 0, none⟩) (k + 1) cap)) B (.slice (some ⟨B, 0, none⟩) n n) (partM f n m i (k + 1)) := by
  have hb1 : Below wr.heap.size wr ((wr.alloc (.cells #[.int .i64 (f i k)] 3)).drew) := ((Below.refl _ _).alloc (Nat.le_refl _) _).drew
  have hBd : Below B w ((wr.alloc (.cells #[.int .i64 (f i k)] 3)).drew) := (hB.alloc hBw _).drew
  refine ⟨(hBd.grown hgrow (by simp; omega) (fun j hj => (OwnI.base hou (Nat.le_refl _) |>.lt j hj).1)).setCell (Nat.le_refl _) _, ?_⟩
  rw [← partM_set f hlt]
  refine (hM.below hb1).upd (partM_get f hlt) ((hb1.cell (p := ⟨B, i, none⟩) (World.block_lt_of_cell? _ _ hc)).trans hc) hgrow (v' := .slice (some ⟨gg, 0, none⟩) (k + 1) cap) ?_ ?_
  · have : (List.map (f i) (List.range k) ++ [f i k]).length = k + 1 := by simp
    unfold OwnI
    rw [this, ints_append]
    exact hown1
  · rcases hat with h | h
    · exact .inr (.inl h.symm)
    · exact .inr (.inr ⟨gg, rfl, by simp; omega⟩)

set_option maxRecDepth 100000 in
set_option maxHeartbeats 1000000 in
theorem made_any (f : Nat → Nat → Int) (n m : Nat) (g : Nat) (lb : Array Value) (eg : ∀ args w, (callFunc g args).run Tryd.prog w = .ok (.enter g args) w) (w : World) (hn : n ≤ 1000000) (hm : m ≤ 1000000)
    (hf : ∀ (W : World) (i k : Nat), Below w.heap.size w W → i < n → k < m → Calls Tryd.prog g (#[.int .i64 i, .int .i64 k] ++ lb) W fun e w' => e = .returned (.int .i64 (f i k)) ∧ W = w') :
    Calls Tryd.prog 141 #[.int .i64 n, .int .i64 m, .func (.func g) #[] lb] w fun e w' => (∃ v, e = .returned v ∧ OwnM w' w.heap.size v (mat f n m)) ∧ Below w.heap.size w w' := by
  have hmk := run_make_row' (P := Tryd.prog) 22 23 _ _ Tryd.underlying22 infoR rfl .i64 .i64 n (by omega) (by omega)
  obtain ⟨i0, hi, hz0, hz1, hz2⟩ := info_parts infoI
  replace hf := Lib.hid hf
  go_enter Tryd.func141, Tryd.ntmps141
  go_wp2
  have h0 := OwnM_made w w.heap.size n (Nat.le_refl _) (by unfold maxLen; omega)
  rw [← partM_zero f n m] at h0
  have hB0 : Below w.heap.size w (w.alloc (.cells (madeCells #[.slice none 0 0] n) 23)) := (Below.refl _ _).alloc (Nat.le_refl _) _
  generalize w.alloc (.cells (madeCells #[.slice none 0 0] n) 23) = w1 at h0 hB0 ⊢
  go_loopw [8, 9, 14] (fun _ _ i wr => ∃ k : Nat, k ≤ n ∧ i = .int .i64 k ∧ Below w.heap.size w wr ∧ OwnM wr w.heap.size (.slice (some ⟨w.heap.size, 0, none⟩) n n) (partM f n m k 0)) (fun _ _ i _ => n - (intOf i).toNat)
  case atStart => exact ⟨0, Nat.zero_le _, rfl, hB0, h0⟩
  case round =>
    obtain ⟨i, hi', rfl, hB, hM⟩ := hrel
    by_cases hlt : i < n
    · go_wp2
      obtain ⟨wo, rfl⟩ : ∃ wo : World, wo = wr := ⟨_, rfl⟩
      go_loopw [9, 18] (fun _ j wr => ∃ k : Nat, k ≤ m ∧ j = .int .i64 k ∧ Below w.heap.size w wr ∧ OwnM wr w.heap.size (.slice (some ⟨w.heap.size, 0, none⟩) n n) (partM f n m i k)) (fun _ j _ => m - (intOf j).toNat)
      case atStart => exact ⟨0, Nat.zero_le _, rfl, hB, hM⟩
      case round =>
        obtain ⟨k, hk, rfl, hB, hM⟩ := hrel
        by_cases hkm : k < m
        · obtain ⟨_, hgs, u, hc, hfz, hou, hub⟩ := hM.row' (partM_get f hlt)
          have hcall := Lib.hid (hf.out wr i k hB hlt hkm)
          have q1 : (i : Int) < (n : Int) := by omega
          have q2 : (0 : Int) ≤ (i : Int) := by omega
          have hlen : ((List.range k).map (f i)).length = k := by simp
          have hgs' := World.new_ne wr _ hc
          have hou' := Lib.hid hou
          unfold OwnI at hou
          rw [hlen] at hou
          go_wp2
          have tt : ((wr.alloc (.cells #[.int .i64 (f i k)] 3)).drew).frozen? ⟨w.heap.size, i, none⟩ = false := by simp [*, frozen?_alloc_cells]
          have tc : ((wr.alloc (.cells #[.int .i64 (f i k)] 3)).drew).cell? ⟨w.heap.size, i, none⟩ = some u := by simp [*, World.cell?_alloc_some]
          go_region_law (first | (go_simp; go_at_fn g; refine (hf.out _ i k (by first | exact hB | exact hB.drew) hlt hkm).mono ?_; rintro e w' ⟨rfl, rfl⟩; dsimp only) | (refine step_append_lies _ (by rfl) _ _ _ (by rfl) w.heap.size 3 i0 _ 1 8 Tryd.underlying23 hi hz0 hz1 hz2 rfl (by omega) u k _ (by rfl) ((hou.alloc _).drew) ⟨wr.heap.size, 0, none⟩ 1 1 [.int .i64 (f i k)] (by rfl) (by rfl) (World.news_of_block (cs := #[.int .i64 (f i k)]) (t := 3) (fr := (0, 0)) (heap_alloc_new wr _)) (by simp [Value.oneCell']) (by omega) (by unfold maxLen; omega) (by omega) (by simp; omega) (wr.heap.size + 1) (by simp) ?_; intro gg cap w1 hown1 hgrow hat hlt1; have hc1 := (hgrow.cell_far ⟨w.heap.size, i, none⟩ (by simp; omega) (Ne.symm hub)).trans tc; have hf1 := (hgrow.frozen_far ⟨w.heap.size, i, none⟩ (by simp; omega) (Ne.symm hub)).trans tt))
          all_goals
            have hfin := Lib.hid (made_step f hB hM hlt hc hou'.out (by omega) hown1 hgrow hat)
            clear hown1 hgrow hat hou' hM hB
            go_wp2
            go_roundw
            case rel => exact ⟨k + 1, by omega, by go_num, hfin.out.1, hfin.out.2⟩
            case measure => simp [intOf]; omega
        · obtain rfl : k = m := by omega
          go_wp2
          go_roundw
          case rel => exact ⟨i + 1, by omega, by go_num, hB, by rw [← partM_row]; exact hM⟩
          case measure => simp [intOf]; omega
    · obtain rfl : i = n := by omega
      go_wp2
      go_ret
      exact ⟨⟨_, rfl, by rw [← partM_end]; exact hM⟩, hB⟩
end Go.Proofs.YtfljkcmijnhgkaaDoor

namespace Go.Proofs.YtfljkcmijnhgkaaDoor
open Go.RowKit Go.Shelf
set_option maxHeartbeats 400000 in
theorem identity_1 (i k : Nat) (w : World) : Calls Tryd.prog 142 (#[.int .i64 i, .int .i64 k] ++ #[]) w fun e w' => e = .returned (.int .i64 (if i = k then 1 else 0)) ∧ w = w' := by
  by_cases h : i = k
  · subst h
    go_enter Tryd.func142, Tryd.ntmps142
    go_wp2
    go_ret
    exact ⟨by simp, rfl⟩
  · have h2 : ((i : Int) == (k : Int)) = false := by rw [beq_eq_false_iff_ne]; omega
    go_enter Tryd.func142, Tryd.ntmps142
    go_wp2
    go_ret
    exact ⟨rfl, rfl⟩
set_option maxHeartbeats 400000 in
theorem identity_any (n : Nat) (w : World) (hn : n ≤ 1000000) : Calls Tryd.prog 99 #[.int .i64 n] w fun e w' => (∃ v, e = .returned v ∧ OwnM w' w.heap.size v (idM n)) ∧ Below w.heap.size w w' := by
  have hc := Lib.hid (made_any (fun i k => if i = k then 1 else 0) n n 142 #[] (enters_of Tryd.func142 (by kernel_rfl) rfl) w hn hn (fun W i k _ _ _ => identity_1 i k W))
  go_enter Tryd.func99, Tryd.ntmps99
  go_wp2_with (go_at_call 141; refine hc.out.mono ?_; rintro e w' ⟨⟨v, rfl, ho⟩, hb⟩)
  go_ret
  exact ⟨⟨_, rfl, ho⟩, hb⟩

set_option maxRecDepth 100000 in
set_option maxHeartbeats 800000 in
theorem product_1 (a b : List (List Int)) (n l m i k : Nat) (pa pb : Addr) (va vb : Value) (w : World) (ha : okM a n l) (hb : okM b l m) (_hn : n ≤ 1000) (hl : l ≤ 1000) (_hm : m ≤ 1000) (hi : i < n) (hk : k < m)
    (ra : RdM w va a) (rb : RdM w vb b) (ca : w.cell? pa = some va) (cb : w.cell? pb = some vb) :
    Calls Tryd.prog 143 (#[.int .i64 i, .int .i64 k] ++ #[.pointer (some pa), .pointer (some pb)]) w fun e w' => e = .returned (.int .i64 (prodE a b i k)) ∧ w = w' := by
  obtain ⟨A, c, rfl, h1, h2, h3⟩ := ra.open_
  obtain ⟨B, d, rfl, g1, g2, g3⟩ := rb.open_
  rw [ha.1] at *
  rw [hb.1] at *
  obtain ⟨b0, off0, u, rfl, hc0, hu⟩ := h3 i (by omega)
  obtain ⟨A1, c1, rfl, f1, f2, f3⟩ := hu.open_
  rw [ha.row hi] at *
  have hE : Hid (prodE a b i k = psum (fun j => gM a i j * gM b j k % 65521) l % 65521) := by rw [prodE, ha.row hi]; exact rfl
  have hbd := fun j => psum_bd (f := fun j => gM a i j * gM b j k % 65521) (fun j => ⟨Int.emod_nonneg _ (by decide), Int.emod_lt_of_pos _ (by decide)⟩) j
  have i1 : (i : Int) < (n : Int) := by omega
  have i0 : (0 : Int) ≤ (i : Int) := by omega
  clear ra rb hu h3
  replace hbd := Lib.hid hbd
  replace f3 := Lib.hid f3
  replace g3 := Lib.hid g3
  have na := Lib.hid ha.num
  have nb := Lib.hid hb.num
  have rowb := Lib.hid (fun j (hj : j < l) => hb.row hj)
  clear ha hb
  go_enter Tryd.func143, Tryd.ntmps143
  go_wp2
  go_loop [7, 8, 9, 15] (fun s _ _ j => ∃ q : Nat, q ≤ l ∧ j = .int .i64 q ∧ s = .int .i64 (psum (fun j => gM a i j * gM b j k % 65521) q)) (fun _ _ _ j => l - (intOf j).toNat)
  case atStart => exact ⟨0, Nat.zero_le _, rfl, rfl⟩
  case round =>
    obtain ⟨q, hq, rfl, rfl⟩ := hrel
    by_cases hlt : q < l
    · obtain ⟨b2, off2, rfl, hc2⟩ := f3.out q (by omega)
      obtain ⟨b3, off3, u3, rfl, hc3, hu3⟩ := g3.out q (by omega)
      obtain ⟨A4, c4, rfl, e1, e2, e3⟩ := hu3.open_
      rw [rowb.out q hlt] at e1 e2 e3 hc3
      obtain ⟨b4, off4, rfl, hc4⟩ := e3 k (by omega)
      clear e3 hu3
      change _ = some (Value.int .i64 (gM a i q)) at hc2
      change _ = some (Value.int .i64 (gM b q k)) at hc4
      have n1 := na.out i q
      have n2 := nb.out q k
      have hs : psum (fun j => gM a i j * gM b j k % 65521) (q + 1) = psum (fun j => gM a i j * gM b j k % 65521) q + gM a i q * gM b q k % 65521 := rfl
      replace hs := Lib.hid hs
      have ⟨p1, p2⟩ := hbd.out q
      have ⟨m1, m2⟩ := mul_bd n1.1 n1.2 n2.1 n2.2
      generalize psum (fun j => gM a i j * gM b j k % 65521) q = S at p1 p2 hs ⊢
      generalize gM a i q = x at n1 m1 m2 hc2 hs
      generalize gM b q k = y at n2 m1 m2 hc4 hs
      have q1 : (q : Int) < (l : Int) := by omega
      have q0 : (0 : Int) ≤ (q : Int) := by omega
      have k1 : (k : Int) < (m : Int) := by omega
      have k0 : (0 : Int) ≤ (k : Int) := by omega
      go_wp2
      go_round
      case rel => exact ⟨q + 1, by omega, by go_num, congrArg (Value.int .i64) hs.out.symm⟩
      case measure => simp [intOf]; omega
    · obtain rfl : q = l := by omega
      have ⟨p1, p2⟩ := hbd.out q
      go_wp2
      go_ret
      exact ⟨by rw [hE.out]; rfl, rfl⟩

theorem cell_first (w : World) (x y : Value) (t t' : TypeId) : ((w.alloc (.cells #[x] t)).alloc (.cells #[y] t')).cell? ⟨w.heap.size, 0, none⟩ = some x := by
  have h := cell_new w x t
  exact (((Below.refl (w.alloc (.cells #[x] t)).heap.size _).alloc (Nat.le_refl _) _).cell (p := ⟨w.heap.size, 0, none⟩) (by simp)).trans h
set_option maxRecDepth 100000 in
set_option maxHeartbeats 800000 in
theorem product_any (a b : List (List Int)) (n l m : Nat) (va vb : Value) (w : World) (ha : okM a n l) (hb : okM b l m) (hn : n ≤ 1000) (hl : l ≤ 1000) (hm : m ≤ 1000) (hl0 : 0 < l)
    (ra : RdM w va a) (rb : RdM w vb b) :
    Calls Tryd.prog 100 #[va, vb] w fun e w' => (∃ v, e = .returned v ∧ OwnM w' w.heap.size v (prodM a b)) ∧ Below w.heap.size w w' := by
  have hP : prodM a b = mat (prodE a b) n m := by rw [prodM, ha.1, hb.len0 hl0]
  have hb0 : Below w.heap.size w ((w.alloc (.cells #[va] 22)).alloc (.cells #[vb] 22)) := ((Below.refl _ _).alloc (Nat.le_refl _) _).alloc (by simp) _
  have hc := fun W (hW : Below ((w.alloc (.cells #[va] 22)).alloc (.cells #[vb] 22)).heap.size ((w.alloc (.cells #[va] 22)).alloc (.cells #[vb] 22)) W) => made_any (prodE a b) n m 143 #[.pointer (some ⟨w.heap.size, 0, none⟩), .pointer (some ⟨w.heap.size + 1, 0, none⟩)] (enters_of Tryd.func143 (by kernel_rfl) rfl) W (by omega) (by omega) (fun W' i k hW' hi hk =>
    product_1 a b n l m i k ⟨w.heap.size, 0, none⟩ ⟨w.heap.size + 1, 0, none⟩ va vb W' ha hb hn hl hm hi hk (ra.below ((Below.then_ hb0 hW).trans (hW'.mono (Below.then_ hb0 hW).size)) (Nat.le_refl _)) (rb.below ((Below.then_ hb0 hW).trans (hW'.mono (Below.then_ hb0 hW).size)) (Nat.le_refl _))
      (((hW.trans (hW'.mono hW.size)).cell (p := ⟨w.heap.size, 0, none⟩) (by simp; omega)).trans (cell_first _ _ _ _ _))
      (((hW.trans (hW'.mono hW.size)).cell (p := ⟨w.heap.size + 1, 0, none⟩) (by simp)).trans (by have h := cell_new (w.alloc (.cells #[va] 22)) vb 22; rw [World.size_alloc] at h; exact h)))
  obtain ⟨A, c, rfl, h1, h2, h3⟩ := ra.open_
  obtain ⟨B, d, rfl, g1, g2, g3⟩ := rb.open_
  rw [ha.1] at *
  rw [hb.1] at *
  obtain ⟨b0, off0, u, rfl, hc0, hu⟩ := g3 0 (by omega)
  obtain ⟨A1, c1, rfl, f1, f2⟩ := hu.cell_
  rw [hb.row hl0, Nat.add_zero] at *
  have hl1 : (0 : Int) < (l : Int) := by omega
  have hlt : b0 < w.heap.size := World.block_lt_of_cell? w _ hc0
  replace hc := Lib.hid hc
  replace hP := Lib.hid hP
  have q0 := cell_first w (.slice A n c) (.slice (some ⟨b0, off0, none⟩) l d) 22 22
  have q1 := cell_new (w.alloc (.cells #[.slice A n c] 22)) (.slice (some ⟨b0, off0, none⟩) l d) 22
  rw [World.size_alloc] at q1
  have q2 := (hb0.cell (p := ⟨b0, off0, none⟩) hlt).trans hc0
  clear ra rb hu h3 g3 ha hb
  go_enter Tryd.func100, Tryd.ntmps100
  go_wp2
  generalize hW : (w.alloc (.cells #[.slice A n c] 22)).alloc (.cells #[.slice (some ⟨b0, off0, none⟩) l d] 22) = W at hb0 hc q0 q1 q2 ⊢
  clear hW
  go_still_tail 7, (by kernel_rfl)
  change wpList _ _ _ _ _ W.drew
  have hbd : Below W.heap.size W W.drew := (Below.refl _ _).drew
  replace hc := Lib.hid (hc.out W.drew hbd)
  go_wp2_with (go_at_call 141; refine hc.out.mono ?_; rintro e w' ⟨⟨v, rfl, ho⟩, hb'⟩)
  go_ret
  have hz := hb0.size
  exact ⟨⟨_, rfl, by rw [hP.out]; exact OwnM.base ho hz⟩, (Below.then_ hb0 hbd).trans (hb'.mono hz)⟩

theorem OwnM.rdOk {w : World} {base : Nat} {v : Value} {a : List (List Int)} (h : OwnM w base v a) {n m : Nat} (ha : okM a n m) (hn : n ≤ 1000) (hm : m ≤ 1000) : RdM w v a :=
  h.rd (by rw [ha.1]; omega) (fun r hr => by have := (ha.2 r hr).1; omega)
theorem powF_zero (f : Nat) (o a : List (List Int)) : powF f o a 0 = o := by cases f <;> simp [powF]
theorem powF_odd {f n : Nat} (o a : List (List Int)) (h : n % 2 = 1) : powF (f + 1) o a n = powF f (prodM o a) (prodM a a) (n / 2) := by
  rw [powF, if_neg (by omega), if_pos h]
theorem powF_even {f n : Nat} (o a : List (List Int)) (h : n % 2 = 0) (h0 : 0 < n) : powF (f + 1) o a n = powF f o (prodM a a) (n / 2) := by
  rw [powF, if_neg (by omega), if_neg (by omega)]
set_option maxRecDepth 100000 in
set_option maxHeartbeats 800000 in
theorem raised_any (a : List (List Int)) (m : Nat) (va : Value) (e : Nat) (w : World) (ha : okM a m m) (hm : m ≤ 1000) (hm0 : 0 < m) (he : e ≤ 9223372036854775807) (ra : RdM w va a) :
    Calls Tryd.prog 105 #[va, .int .i64 e] w fun r w' => (∃ v, r = .returned v ∧ OwnM w' w.heap.size v (powMat a e)) ∧ Below w.heap.size w w' := by
  have hP : powMat a e = powF 64 (idM m) a e := by rw [powMat, ha.1]
  obtain ⟨A, c, e1, h1, h2, _⟩ := ra.open_
  rw [ha.1] at e1 h1 h2
  have ra0 := ra
  rw [e1] at ra0
  subst e1
  have hid := Lib.hid (identity_any m w (by omega))
  replace ra0 := Lib.hid ra0
  replace hP := Lib.hid hP
  have ha0 := Lib.hid ha
  clear ra ha
  go_enter Tryd.func105, Tryd.ntmps105
  go_wp2_with (go_at_call 99; refine hid.out.mono ?_; rintro r W1 ⟨⟨v1, rfl, ho1⟩, hb1⟩)
  replace ho1 := Lib.hid ho1
  go_loopw [0, 1, 5] (fun x y o wr => ∃ (f n : Nat) (x' o' : List (List Int)), y = .int .i64 n ∧ n < 2 ^ f ∧ n ≤ e ∧ Below w.heap.size w wr ∧ Hid (okM x' m m ∧ okM o' m m ∧ RdM wr x x' ∧ OwnM wr w.heap.size o o' ∧ powF f o' x' n = powMat a e)) (fun _ y _ _ => (intOf y).toNat)
  case atStart =>
    refine ⟨64, e, a, idM m, rfl, by have : (2 : Nat) ^ 64 = 18446744073709551616 := by decide
                                     omega, Nat.le_refl _, hb1, Lib.hid ⟨ha0.out, okM_id m, ra0.out.below hb1 (Nat.le_refl _), ho1.out, hP.out.symm⟩⟩
  case round =>
    obtain ⟨f, n, x', o', rfl, hf, hne, hB, H⟩ := hrel
    obtain ⟨ox, oo, rx, ro, hH⟩ := H.out
    clear H
    have rx' := Lib.hid rx
    have ro' := Lib.hid (ro.rdOk oo hm hm)
    have ro := Lib.hid ro
    clear rx
    by_cases h0 : n = 0
    · subst h0
      rw [powF_zero] at hH
      replace hH := Lib.hid hH
      go_wp2
      go_ret
      exact ⟨⟨_, rfl, by rw [← hH.out]; exact ro.out⟩, hB⟩
    · obtain ⟨f, rfl⟩ : ∃ g, f = g + 1 := ⟨f - 1, by
        cases f with
        | zero => omega
        | succ f => omega⟩
      have hf' : n / 2 < 2 ^ f := by rw [Nat.pow_succ] at hf; omega
      have hsq := Lib.hid (fun W (hW : Below wr.heap.size wr W) => product_any x' x' m m m u0 u0 W ox ox hm hm hm hm0 (rx'.out.below hW (Nat.le_refl _)) (rx'.out.below hW (Nat.le_refl _)))
      have hb1 := i64_and_one (b := (n : Int)) (by omega) (by omega)
      by_cases hodd : n % 2 = 1
      · rw [powF_odd _ _ hodd] at hH
        replace hH := Lib.hid hH
        have hmul := Lib.hid (product_any o' x' m m m u5 u0 wr oo ox hm hm hm hm0 ro'.out rx'.out)
        have hb2 : bits BinOp.and IntKind.i64 (n : Int) 1 = 1 := by rw [hb1]; omega
        clear hb1 hf
        go_wp2_with fail
        refine hmul.out.mono ?_; rintro r W1 ⟨⟨v1, rfl, ho1⟩, hb1⟩
        replace ho1 := Lib.hid ho1
        go_wp2_with fail
        refine (hsq.out W1 hb1).mono ?_; rintro r W2 ⟨⟨v2, rfl, ho2⟩, hb2⟩
        replace ho2 := Lib.hid ho2
        go_wp2
        go_roundw
        case rel => exact ⟨f, n / 2, _, _, by go_num, hf', by omega, (hB.trans (hb1.mono hB.size)).trans (hb2.mono (Below.then_ hB hb1).size), Lib.hid ⟨okM_prod ox ox hm0, okM_prod oo ox hm0, ho2.out.rdOk (okM_prod ox ox hm0) hm hm, (ho1.out.base hB.size).below hb2, hH.out⟩⟩
        case measure => simp [intOf]; omega
      · have hev : n % 2 = 0 := by omega
        rw [powF_even _ _ hev (by omega)] at hH
        replace hH := Lib.hid hH
        have hb2 : bits BinOp.and IntKind.i64 (n : Int) 1 = 0 := by rw [hb1]; omega
        clear hb1 hf
        go_wp2_with fail
        refine (hsq.out wr (Below.refl _ _)).mono ?_; rintro r W2 ⟨⟨v2, rfl, ho2⟩, hb2⟩
        replace ho2 := Lib.hid ho2
        go_wp2
        go_roundw
        case rel => exact ⟨f, n / 2, _, _, by go_num, hf', by omega, hB.trans (hb2.mono hB.size), Lib.hid ⟨okM_prod ox ox hm0, oo, ho2.out.rdOk (okM_prod ox ox hm0) hm hm, ro.out.below hb2, hH.out⟩⟩
        case measure => simp [intOf]; omega
end Go.Proofs.YtfljkcmijnhgkaaDoor

namespace Go.Proofs.YtfljkcmijnhgkaaDoor
open Go.RowKit Go.Shelf
theorem OwnM_nil (w : World) (base : Nat) : OwnM w base (.slice none 0 0) [] := ⟨[], World.ownsRow_nil _ _ _ _, fun j r u h => by simp at h, fun i j u u' _ h => by simp at h⟩
set_option maxHeartbeats 800000 in
theorem square_any (rs : List (List Int)) (v : Value) (w : World) (h : RdM w v rs) :
    Calls Tryd.prog 98 #[v] w fun e w' => e = .returned (.int .i64 (squareM rs)) ∧ Below w.heap.size w w' := by
  have hc := Lib.hid (Check_any rs v w h)
  by_cases h0 : checkM rs = 0
  · obtain ⟨hok, h1, h2, h3, h4⟩ := checkM_ok h0
    have hs : squareM rs = if rs.length ≠ len0 rs then 7 else 0 := by rw [squareM, if_neg (by simpa using h0)]
    obtain ⟨A, c, rfl, l1, l2, l3⟩ := h.open_
    obtain ⟨b, off, u, rfl, hcell, hu⟩ := l3 0 (by omega)
    obtain ⟨A1, c1, rfl, f1, f2⟩ := hu.cell_
    change _ = some (Value.slice A1 (len0 rs) c1) at hcell
    rw [Nat.add_zero] at hcell
    have hlt : b < w.heap.size := World.block_lt_of_cell? w _ hcell
    rw [h0] at hc
    generalize rs.length = n at *
    generalize len0 rs = m at *
    clear l3 hu h hok f1 f2 h0
    have n1 : (0 : Int) < (n : Int) := by omega
    by_cases hnm : n = m
    · subst hnm
      have hs' : Hid (squareM rs = 0) := by rw [hs, if_neg (by simp)]; exact rfl
      clear hs
      go_enter Tryd.func98, Tryd.ntmps98
      go_wp2_with fail
      refine hc.out.mono ?_; rintro e W ⟨rfl, hb⟩
      have hcell' := (hb.cell (p := ⟨b, off, none⟩) hlt).trans hcell
      go_wp2
      go_ret
      exact ⟨by rw [hs'.out]; rfl, hb⟩
    · have hs' : Hid (squareM rs = 7) := by rw [hs, if_pos hnm]; exact rfl
      clear hs
      have hne : ((n : Int) != (m : Int)) = true := by rw [bne_iff_ne]; omega
      go_enter Tryd.func98, Tryd.ntmps98
      go_wp2_with fail
      refine hc.out.mono ?_; rintro e W ⟨rfl, hb⟩
      have hcell' := (hb.cell (p := ⟨b, off, none⟩) hlt).trans hcell
      go_wp2
      go_ret
      exact ⟨by rw [hs'.out]; rfl, hb⟩
  · have hs : Hid (squareM rs = checkM rs) := by unfold squareM; rw [if_pos h0]; exact rfl
    have hne : (checkM rs != 0) = true := by rw [bne_iff_ne]; exact h0
    have hca := Lib.hid (checkM_cases rs)
    generalize checkM rs = x at *
    clear h h0
    go_enter Tryd.func98, Tryd.ntmps98
    go_wp2_with fail
    refine hc.out.mono ?_; rintro e W ⟨rfl, hb⟩
    go_wp2
    go_ret
    exact ⟨by rw [hs.out]; rfl, hb⟩

/-- What Power leaves. -/
def MatErr (r : Int × List (List Int)) (w : World) (e : Ending) (w' : World) : Prop := ∃ v, e = .returned (.tuple #[v, .int .i64 r.1]) ∧ OwnM w' w.heap.size v r.2 ∧ Below w.heap.size w w'
set_option maxHeartbeats 800000 in
theorem Power_any (a : List (List Int)) (n : Int) (v : Value) (w : World) (h : RdM w v a) (hn : n ≤ 9223372036854775807) :
    Calls Tryd.prog 30 #[v, .int .i64 n] w (MatErr (powR a n) w) := by
  have hc := Lib.hid (square_any a v w h)
  by_cases h0 : squareM a = 0
  · obtain ⟨hok, h1, h2⟩ := squareM_ok h0
    rw [h0] at hc
    by_cases hneg : n < 0
    · have hr : Hid (powR a n = (3, [])) := by unfold powR; rw [if_neg (by simpa using h0), if_pos hneg]; exact rfl
      clear hok h0 h
      go_enter Tryd.func30, Tryd.ntmps30
      go_wp2_with fail
      refine hc.out.mono ?_; rintro e W ⟨rfl, hb⟩
      go_wp2
      go_ret2
      rw [hr.out]
      exact ⟨_, rfl, OwnM_nil _ _, hb⟩
    · obtain ⟨k, rfl⟩ := Int.eq_ofNat_of_zero_le (show 0 ≤ n by omega)
      have hr : Hid (powR a k = (0, powMat a k)) := by unfold powR; rw [if_neg (by simpa using h0), if_neg hneg]; exact rfl
      have hp := Lib.hid (fun W (hW : Below w.heap.size w W) => raised_any a a.length v k W hok (by omega) (by omega) (by omega) (h.below hW (Nat.le_refl _)))
      clear hok h0 h
      go_enter Tryd.func30, Tryd.ntmps30
      go_wp2_with fail
      refine hc.out.mono ?_; rintro e W ⟨rfl, hb⟩
      go_wp2_with fail
      refine (hp.out W hb).mono ?_; rintro e W2 ⟨⟨v2, rfl, ho⟩, hb2⟩
      replace ho := Lib.hid ho
      go_wp2
      go_ret2
      rw [hr.out]
      exact ⟨_, rfl, ho.out.base hb.size, Below.then_ hb hb2⟩
  · have hr : Hid (powR a n = (squareM a, [])) := by unfold powR; rw [if_pos h0]; exact rfl
    have hne : (squareM a != 0) = true := by rw [bne_iff_ne]; exact h0
    have hca := Lib.hid (squareM_cases a)
    generalize squareM a = x at *
    clear h h0
    go_enter Tryd.func30, Tryd.ntmps30
    go_wp2_with fail
    refine hc.out.mono ?_; rintro e W ⟨rfl, hb⟩
    go_wp2
    go_ret2
    rw [hr.out]
    exact ⟨_, rfl, OwnM_nil _ _, hb⟩
end Go.Proofs.YtfljkcmijnhgkaaDoor
