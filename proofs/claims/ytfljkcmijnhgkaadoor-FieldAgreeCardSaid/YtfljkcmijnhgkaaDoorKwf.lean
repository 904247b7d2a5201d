/- The sack of the kit: its contracts. What the law draws: numbers, matrices. The law's identity and shape; a sack filled. -/
import Derived.Test.YtfljkcmijnhgkaaDoorKf
import Derived.Test.YtfljkcmijnhgkaaDoorKg
import Derived.Test.YtfljkcmijnhgkaaDoorKh
import Derived.StillTailTactics
import Derived.Deep.DeepCutAuto
import Derived.Laws.Closers25b
import Derived.Test.YtfljkcmijnhgkaaDoorKq
import Derived.Test.YtfljkcmijnhgkaaDoorKwb
import Derived.Test.YtfljkcmijnhgkaaDoorKi
import Derived.Test.YtfljkcmijnhgkaaDoorKw
import Derived.Test.YtfljkcmijnhgkaaDoorKb
namespace Go.Proofs.YtfljkcmijnhgkaaDoor
open Go.RowKit Go.Shelf
set_option linter.unusedSimpArgs false
/-- The slice v reads as bytes, which lie in a block before g. -/
def RdB (w : World) (g : Nat) (v : Value) (n : Nat) : Prop := ∃ (A : Option Addr) (c : Nat), v = .slice A n c ∧ n ≤ c ∧ n ≤ 140737488355328 ∧
  (0 < n → ∃ b off, A = some ⟨b, off, none⟩ ∧ b < g ∧ ∀ j, j < n → ∃ x : Int, (0 ≤ x ∧ x < 256) ∧ w.cell? ⟨b, off + j, none⟩ = some (.int .u8 x))
/-- A sack in block g: at most so many numbers were drawn. -/
def SackAt (w : World) (g N : Nat) : Prop := ∃ v n, ∃ k : Nat, ∃ st : Int, w.heap[g]? = some (.cells #[v, .int .i64 k, .int .u64 st] 102 (0, 0)) ∧ RdB w g v n ∧ k ≤ N ∧ (0 ≤ st ∧ st < 18446744073709551616)
/-- The sack's block while a number is drawn. -/
def SackIn (w wx : World) (g N : Nat) (A : Option Addr) (n c : Nat) : Prop := ∃ (k : Nat) (st : Int), k ≤ N ∧ wx.heap[g]? = some (.cells #[.slice A n c, .int .i64 k, .int .u64 st] 102 (0, 0)) ∧ (0 ≤ st ∧ st < 18446744073709551616) ∧ Btw g (g + 1) w wx
theorem sack_cells {wx : World} {g : Nat} {a b c : Value} {t : TypeId} (hg : wx.heap[g]? = some (.cells #[a, b, c] t (0, 0))) : wx.cell? ⟨g, 0, none⟩ = some a ∧ wx.cell? ⟨g, 1, none⟩ = some b ∧ wx.cell? ⟨g, 2, none⟩ = some c ∧ wx.frozen? ⟨g, 1, none⟩ = false ∧ wx.frozen? ⟨g, 2, none⟩ = false :=
  ⟨by unfold World.cell?; rw [hg]; rfl, by unfold World.cell?; rw [hg]; rfl, by unfold World.cell?; rw [hg]; rfl, by unfold World.frozen?; rw [hg]; rfl, by unfold World.frozen?; rw [hg]; rfl⟩
theorem u64_bits (op : BinOp) (a b : Int) : 0 ≤ bits op .u64 a b ∧ bits op .u64 a b < 18446744073709551616 := by
  have := bits_within op .u64 a b
  have h1 : IntKind.min .u64 = 0 := by decide
  have h2 : IntKind.max .u64 = 18446744073709551615 := by decide
  omega
theorem u64_wrap (x : Int) : 0 ≤ IntKind.u64.wrap x ∧ IntKind.u64.wrap x < 18446744073709551616 := by
  have := wrap_within .u64 x
  have h1 : IntKind.min .u64 = 0 := by decide
  have h2 : IntKind.max .u64 = 18446744073709551615 := by decide
  omega
theorem btw_set {g k : Nat} (w : World) (v : Value) : Btw g (g + 1) w (w.setCell ⟨g, k, none⟩ v) := ⟨rfl, rfl, rfl, by simp [World.setCell], fun q _ hq => Below.heap_setCell _ _ _ _ (by show q ≠ g; omega)⟩
theorem btw_drew {lo hi : Nat} (w : World) : Btw lo hi w w.drew := ⟨rfl, rfl, rfl, Nat.le_refl _, fun _ _ _ => rfl⟩
set_option maxRecDepth 100000 in
set_option maxHeartbeats 3200000 in
theorem draw_any (g N : Nat) (w : World) (h : SackAt w g N) (hN : N ≤ 1000000) :
    Calls Tryd.prog 138 #[.pointer (some ⟨g, 0, none⟩)] w fun e w' => (∃ x : Int, e = .returned (.int .u64 x) ∧ 0 ≤ x ∧ x < 18446744073709551616) ∧ SackAt w' g (N + 1) ∧ Btw g (g + 1) w w' := by
  obtain ⟨v, n, k, st, hg, ⟨A, c, rfl, n1, n2, hb⟩, hk, hst⟩ := h
  obtain ⟨c0, c1, c2, f1, f2⟩ := sack_cells hg
  replace hb := Lib.hid hb
  have hg0 := Lib.hid hg
  clear hg
  go_enter Tryd.func138, Tryd.ntmps138
  go_upto_if 8 with fail
  go_cut [] (fun wx => SackIn w wx g (N + 1) A n c)
  case first =>
    by_cases h0 : n = 0
    · subst h0
      have hS : SackIn w w g (N + 1) A 0 c := ⟨k, st, by omega, hg0.out, hst, Btw.refl _ _ _⟩
      replace hS := Lib.hid hS
      go_wp2_with fail
      go_meet
      exact hS.out
    · have hp : 0 < n := by omega
      have hp2 : (0 : Int) < (n : Int) := by omega
      obtain ⟨b, off, rfl, -, hcc⟩ := hb.out hp
      obtain ⟨x, hx, hcx⟩ := hcc (k % n) (Nat.mod_lt _ hp)
      have ht : (k : Int).tmod (n : Int) = ((k % n : Nat) : Int) := by rw [Int.tmod_eq_emod_of_nonneg (by omega)]; exact (Int.natCast_emod k n).symm
      have q1 : ((k % n : Nat) : Int) < (n : Int) := by have := Nat.mod_lt k hp; omega
      have q0 : (0 : Int) ≤ ((k % n : Nat) : Int) := by omega
      have hn0 : ((n : Int) == 0) = false := by rw [beq_eq_false_iff_ne]; omega
      generalize k % n = m at *
      clear hcc
      go_wp2
      go_still_tail 25, (by kernel_rfl)
      change wpList _ _ _ _ _ w.drew
      replace c0 : w.drew.cell? _ = _ := c0
      replace c1 : w.drew.cell? _ = _ := c1
      replace c2 : w.drew.cell? _ = _ := c2
      replace f1 : w.drew.frozen? _ = _ := f1
      replace f2 : w.drew.frozen? _ = _ := f2
      have hgd : Hid (w.drew.heap[g]? = some (.cells #[.slice (some ⟨b, off, none⟩) n c, .int .i64 k, .int .u64 st] 102 (0, 0))) := hg0
      have hbd := Lib.hid (btw_drew (lo := g) (hi := g + 1) w)
      clear hcx
      generalize w.drew = wd at *
      go_wp2_with fail
      go_meet
      exact ⟨k + 1, _, by omega, heap_set1 _ (heap_set1 _ hgd.out), u64_wrap _, hbd.out.trans ((btw_set wd _).trans (btw_set _ _))⟩
  case rest =>
    clear c0 c1 c2 f1 f2 hst hk hg0
    rename World => w0
    obtain ⟨k, st, hk, hg, hst, hbt⟩ := hcut
    obtain ⟨c0, c1, c2, f1, f2⟩ := sack_cells hg
    have hgd := Lib.hid hg
    have hbd := Lib.hid hbt
    clear hg hbt
    go_upto_region 4 with fail
    go_cut [] (fun wx => SackIn w wx g (N + 1) A n c)
    case first =>
      go_still_tail 12, (by kernel_rfl)
      change wpList _ _ _ _ _ w0.drew
      replace c2 : w0.drew.cell? _ = _ := c2
      replace f2 : w0.drew.frozen? _ = _ := f2
      have hgx : Hid (w0.drew.heap[g]? = some (.cells #[.slice A n c, .int .i64 k, .int .u64 st] 102 (0, 0))) := hgd
      have hbx := Lib.hid (hbd.out.trans (btw_drew (lo := g) (hi := g + 1) w0))
      clear c0 c1 f1 hgd hbd
      generalize w0.drew = wd at *
      go_wp2_with fail
      go_meet
      exact ⟨k, _, hk, heap_set1 _ hgx.out, u64_bits _ _ _, hbx.out.trans (btw_set wd _)⟩
    case rest =>
    clear c0 c1 c2 f1 f2 hst hk hgd hbd
    obtain ⟨k, st, hk, hg, hst, hbt⟩ := hcut
    rename World => w0
    obtain ⟨c0, c1, c2, f1, f2⟩ := sack_cells hg
    have hgd := Lib.hid hg
    have hbd := Lib.hid hbt
    clear hg hbt
    go_upto_region 5 with fail
    go_cut [] (fun wx => SackIn w wx g (N + 1) A n c)
    case first =>
      go_still_tail 12, (by kernel_rfl)
      change wpList _ _ _ _ _ w0.drew
      replace c2 : w0.drew.cell? _ = _ := c2
      replace f2 : w0.drew.frozen? _ = _ := f2
      have hgx : Hid (w0.drew.heap[g]? = some (.cells #[.slice A n c, .int .i64 k, .int .u64 st] 102 (0, 0))) := hgd
      have hbx := Lib.hid (hbd.out.trans (btw_drew (lo := g) (hi := g + 1) w0))
      clear c0 c1 f1 hgd hbd
      generalize w0.drew = wd at *
      go_wp2_with fail
      go_meet
      exact ⟨k, _, hk, heap_set1 _ hgx.out, u64_bits _ _ _, hbx.out.trans (btw_set wd _)⟩
    case rest =>
    clear c0 c1 c2 f1 f2 hst hk hgd hbd
    obtain ⟨k, st, hk, hg, hst, hbt⟩ := hcut
    rename World => w0
    obtain ⟨c0, c1, c2, f1, f2⟩ := sack_cells hg
    have hgd := Lib.hid hg
    have hbd := Lib.hid hbt
    clear hg hbt
    go_upto_region 6 with fail
    go_cut [] (fun wx => SackIn w wx g (N + 1) A n c)
    case first =>
      go_still_tail 12, (by kernel_rfl)
      change wpList _ _ _ _ _ w0.drew
      replace c2 : w0.drew.cell? _ = _ := c2
      replace f2 : w0.drew.frozen? _ = _ := f2
      have hgx : Hid (w0.drew.heap[g]? = some (.cells #[.slice A n c, .int .i64 k, .int .u64 st] 102 (0, 0))) := hgd
      have hbx := Lib.hid (hbd.out.trans (btw_drew (lo := g) (hi := g + 1) w0))
      clear c0 c1 f1 hgd hbd
      generalize w0.drew = wd at *
      go_wp2_with fail
      go_meet
      exact ⟨k, _, hk, heap_set1 _ hgx.out, u64_bits _ _ _, hbx.out.trans (btw_set wd _)⟩
    case rest =>
    clear c0 c1 c2 f1 f2 hst hk hgd hbd
    obtain ⟨k, st, hk, hg, hst, hbt⟩ := hcut
    rename World => w0
    obtain ⟨c0, c1, c2, f1, f2⟩ := sack_cells hg
    have hgd := Lib.hid hg
    have hbd := Lib.hid hbt
    have hbb := Lib.hid (show SackAt w0 g (N + 1) from ⟨_, n, k, st, hg, ⟨A, c, rfl, n1, n2, fun hp => by
      obtain ⟨b, off, e, hne, h⟩ := hb.out hp
      exact ⟨b, off, e, hne, fun j hj => by
        obtain ⟨x, hx, hc⟩ := h j hj
        exact ⟨x, hx, (World.cell?_of_block (a := ⟨b, off + j, none⟩) (hbt.block b (World.block_lt_of_cell? w _ hc) (by omega))).trans hc⟩⟩⟩, hk, hst⟩)
    clear hg hbt
    go_wp2
    go_ret
    have hw := u64_wrap (st * 2685821657736338717)
    exact ⟨⟨_, rfl, by omega, by omega⟩, hbb.out, hbd.out⟩
theorem SackAt.low {g N B : Nat} {w w' : World} (h : SackAt w g N) (hb : Below B w w') (hB : g < B) : SackAt w' g N := by
  obtain ⟨v, n, k, st, hg, ⟨A, c, rfl, n1, n2, hbb⟩, hk, hst⟩ := h
  refine ⟨_, n, k, st, (hb.block g hB).trans hg, ⟨A, c, rfl, n1, n2, fun hp => ?_⟩, hk, hst⟩
  obtain ⟨b, off, e, hne, h⟩ := hbb hp
  exact ⟨b, off, e, hne, fun j hj => by
    obtain ⟨x, hx, hc⟩ := h j hj
    exact ⟨x, hx, (hb.cell (p := ⟨b, off + j, none⟩) (by show b < B; omega)).trans hc⟩⟩
theorem SackAt.lt {g N : Nat} {w : World} (h : SackAt w g N) : g < w.heap.size := by
  obtain ⟨v, n, k, st, hg, -⟩ := h
  exact lt_of_block hg
theorem SackAt.mono {g N M : Nat} {w : World} (h : SackAt w g N) (hm : N ≤ M) : SackAt w g M := by
  obtain ⟨v, n, k, st, hg, hb, hk, hst⟩ := h
  exact ⟨v, n, k, st, hg, hb, by omega, hst⟩
theorem SackAt.kept {g N : Nat} {w w' : World} (h : SackAt w g N) (hb : Below w.heap.size w w') : SackAt w' g N := h.low hb h.lt
theorem Btw.then_ {lo hi B : Nat} {w w' w'' : World} (h : Btw lo hi w w') (k : Below B w' w'') (hB : w.heap.size ≤ B) : Btw lo hi w w'' :=
  ⟨k.os.trans h.os, k.tape.trans h.tape, k.output.trans h.output, Nat.le_trans h.size k.size, fun i hi hn => (k.block i (by omega)).trans (h.block i hi hn)⟩
set_option maxHeartbeats 800000 in
theorem Below_any (g N : Nat) (n : Int) (w : World) (h : SackAt w g N) (hN : N ≤ 1000000) (hn : 0 < n ∧ n ≤ 1000000) :
    Calls Tryd.prog 88 #[.pointer (some ⟨g, 0, none⟩), .int .i64 n] w fun e w' => (∃ x : Int, e = .returned (.int .i64 x) ∧ 0 ≤ x ∧ x < n) ∧ SackAt w' g (N + 1) ∧ Btw g (g + 1) w w' := by
  have hd := Lib.hid (draw_any g N w h hN)
  have hmx : max 1 n = n := by omega
  have hw : IntKind.u64.wrap n = n := by rw [IntKind.wrap_u64]; omega
  have hn0 : (n == 0) = false := by rw [beq_eq_false_iff_ne]; omega
  go_enter Tryd.func88, Tryd.ntmps88
  go_wp2_with fail
  refine hd.out.mono ?_; rintro e W ⟨⟨x, rfl, hx0, hx1⟩, hS, hB⟩
  have ht : x.tmod n = x % n := Int.tmod_eq_emod_of_nonneg hx0
  have hb1 : 0 ≤ x % n := Int.emod_nonneg _ (by omega)
  have hb2 : x % n < n := Int.emod_lt_of_pos _ (by omega)
  have hwx : wrap64 (x % n) = x % n := by unfold wrap64; omega
  replace hS := Lib.hid hS
  replace hB := Lib.hid hB
  have hz0 : wrap64 0 = 0 := by unfold wrap64; omega
  go_wp2
  all_goals go_ret
  all_goals first | exact ⟨⟨_, rfl, hb1, hb2⟩, hS.out, hB.out⟩ | exact ⟨⟨_, rfl, by omega, by omega⟩, hS.out, hB.out⟩
end Go.Proofs.YtfljkcmijnhgkaaDoor

namespace Go.Proofs.YtfljkcmijnhgkaaDoor
open Go.RowKit Go.Shelf
set_option linter.unusedSimpArgs false
set_option maxHeartbeats 1600000 in
theorem draws_any (g N : Nat) (w : World) (h : SackAt w g N) (hN : N ≤ 999990) :
    Calls Tryd.prog 87 #[.pointer (some ⟨g, 0, none⟩)] w fun e w' => (∃ x : Int, e = .returned (.int .i64 x) ∧ 0 ≤ x ∧ x < 65521) ∧ SackAt w' g (N + 2) ∧ Btw g (g + 1) w w' := by
  have hd := Lib.hid (Below_any g N 6 w h (by omega) (by decide))
  go_enter Tryd.func87, Tryd.ntmps87
  go_wp2_with fail
  refine hd.out.mono ?_; rintro e W ⟨⟨x, rfl, hx0, hx1⟩, hS, hB⟩
  have h2 := Lib.hid (fun n (hn : 0 < n ∧ n ≤ 1000000) => Below_any g (N + 1) n W hS (by omega) hn)
  clear hS
  replace hB := Lib.hid hB
  by_cases e0 : x = 0
  · subst e0
    go_wp2_with fail
    refine (h2.out _ (by decide)).mono ?_; rintro e W2 ⟨⟨y, rfl, hy0, hy1⟩, hS, hB2⟩
    replace hS := Lib.hid hS
    replace hB2 := Lib.hid (hB.out.trans hB2)
    go_wp2
    go_ret
    exact ⟨⟨_, rfl, hy0, hy1⟩, hS.out, hB2.out⟩
  by_cases e1 : x = 1
  · subst e1
    go_wp2_with fail
    refine (h2.out _ (by decide)).mono ?_; rintro e W2 ⟨⟨y, rfl, hy0, hy1⟩, hS, hB2⟩
    replace hS := Lib.hid hS
    replace hB2 := Lib.hid (hB.out.trans hB2)
    go_wp2
    go_ret
    exact ⟨⟨_, rfl, by omega, by omega⟩, hS.out, hB2.out⟩
  · have q0 : (x == 0) = false := by rw [beq_eq_false_iff_ne]; exact e0
    have q1 : (x == 1) = false := by rw [beq_eq_false_iff_ne]; exact e1
    go_wp2_with fail
    refine (h2.out _ (by decide)).mono ?_; rintro e W2 ⟨⟨y, rfl, hy0, hy1⟩, hS, hB2⟩
    replace hS := Lib.hid hS
    replace hB2 := Lib.hid (hB.out.trans hB2)
    go_wp2
    go_ret
    exact ⟨⟨_, rfl, by omega, by omega⟩, hS.out, hB2.out⟩
/-- Numbers below the prime. -/
def okL (xs : List Int) (m : Nat) : Prop := xs.length = m ∧ ∀ x ∈ xs, 0 ≤ x ∧ x < 65521
theorem okL.snoc {xs : List Int} {m : Nat} (h : okL xs m) {x : Int} (hx : 0 ≤ x ∧ x < 65521) : okL (xs ++ [x]) (m + 1) :=
  ⟨by simp [h.1], fun y hy => by
    rcases List.mem_append.1 hy with hy | hy
    · exact h.2 y hy
    · rw [List.mem_singleton.1 hy]; exact hx⟩
theorem okM.snoc {M : List (List Int)} {n m : Nat} (h : okM M n m) {r : List Int} (hr : okL r m) : okM (M ++ [r]) (n + 1) m :=
  ⟨by simp [h.1], fun y hy => by
    rcases List.mem_append.1 hy with hy | hy
    · exact h.2 y hy
    · rw [List.mem_singleton.1 hy]; exact hr⟩
theorem okM.put {M : List (List Int)} {n m i k : Nat} (h : okM M n m) (hi : i < n) {x : Int} (hx : 0 ≤ x ∧ x < 65521) : okM (M.set i ((M.getD i []).set k x)) n m :=
  ⟨by rw [List.length_set, h.1], fun y hy => by
    rcases List.mem_or_eq_of_mem_set hy with hy | rfl
    · exact h.2 y hy
    · refine ⟨by rw [List.length_set, h.row hi], fun z hz => ?_⟩
      rcases List.mem_or_eq_of_mem_set hz with hz | rfl
      · exact h.mem hi z hz
      · exact hx⟩
end Go.Proofs.YtfljkcmijnhgkaaDoor

namespace Go.Proofs.YtfljkcmijnhgkaaDoor
open Go.RowKit Go.Shelf
set_option linter.unusedSimpArgs false
theorem RdB.mono {w : World} {g g' n : Nat} {v : Value} (h : RdB w g v n) (hg : g ≤ g') : RdB w g' v n := by
  obtain ⟨A, c, rfl, n1, n2, hbb⟩ := h
  refine ⟨A, c, rfl, n1, n2, fun hp => ?_⟩
  obtain ⟨b, off, e, hne, h⟩ := hbb hp
  exact ⟨b, off, e, by omega, h⟩
theorem RdB.below {w w' : World} {g n B : Nat} {v : Value} (h : RdB w g v n) (hb : Below B w w') (hg : g ≤ B) : RdB w' g v n := by
  obtain ⟨A, c, rfl, n1, n2, hbb⟩ := h
  refine ⟨A, c, rfl, n1, n2, fun hp => ?_⟩
  obtain ⟨b, off, e, hne, h⟩ := hbb hp
  exact ⟨b, off, e, hne, fun j hj => by
    obtain ⟨x, hx, hc⟩ := h j hj
    exact ⟨x, hx, (hb.cell (p := ⟨b, off + j, none⟩) (by show b < B; omega)).trans hc⟩⟩
theorem RdB.btw {w w' : World} {g n lo hi : Nat} {v : Value} (h : RdB w g v n) (hb : Btw lo hi w w') (hg : g ≤ lo) : RdB w' g v n := by
  obtain ⟨A, c, rfl, n1, n2, hbb⟩ := h
  refine ⟨A, c, rfl, n1, n2, fun hp => ?_⟩
  obtain ⟨b, off, e, hne, h⟩ := hbb hp
  exact ⟨b, off, e, hne, fun j hj => by
    obtain ⟨x, hx, hc⟩ := h j hj
    exact ⟨x, hx, (World.cell?_of_block (a := ⟨b, off + j, none⟩) (hb.block b (World.block_lt_of_cell? w _ hc) (by omega))).trans hc⟩⟩
set_option maxHeartbeats 800000 in
theorem Fill_any (n : Nat) (v : Value) (w : World) (h : RdB w w.heap.size v n) :
    Calls Tryd.prog 26 #[v] w fun e w' => e = .returned (.pointer (some ⟨w.heap.size, 0, none⟩)) ∧ SackAt w' w.heap.size 0 ∧ Below w.heap.size w w' := by
  have hR := Lib.hid h
  obtain ⟨A, c, rfl, n1, n2, -⟩ := h
  go_enter Tryd.func26, Tryd.ntmps26
  go_wp2
  go_ret
  refine ⟨rfl, ⟨_, n, 0, _, heap_alloc_new _ _, hR.out.below ((Below.refl _ _).alloc (Nat.le_refl _) _) (Nat.le_refl _), Nat.le_refl _, ?_⟩, (Below.refl _ _).alloc (Nat.le_refl _) _⟩
  omega
/-- A number of the product, so many terms taken. -/
def pvS (a : List (List Int)) (x : List Int) (i j : Nat) : Int := psum (fun k => gM a i k * x.getD k 0 % 65521) j % 65521
/-- A matrix times a list. -/
def pvL (a : List (List Int)) (x : List Int) (n m : Nat) : List Int := (List.range n).map fun i => pvS a x i m
theorem pvL_len (a : List (List Int)) (x : List Int) (n m : Nat) : (pvL a x n m).length = n := by simp [pvL]
end Go.Proofs.YtfljkcmijnhgkaaDoor
