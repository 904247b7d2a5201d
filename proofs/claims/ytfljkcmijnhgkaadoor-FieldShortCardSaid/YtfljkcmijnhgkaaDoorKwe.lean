/- The sack of the kit: its contracts. What the law draws: numbers, matrices. The law's product of matrices, its identity, shaped. The law's identity and shape; a sack filled. -/
import Derived.Test.YtfljkcmijnhgkaaDoorKf
import Derived.Test.YtfljkcmijnhgkaaDoorKg
import Derived.Test.YtfljkcmijnhgkaaDoorKh
import Derived.StillTailTactics
import Derived.Deep.DeepCutAuto
import Derived.Laws.Closers25b
import Derived.Test.YtfljkcmijnhgkaaDoorKq
import Derived.Test.YtfljkcmijnhgkaaDoorKwb
import Derived.Test.YtfljkcmijnhgkaaDoorKi
import Derived.Test.YtfljkcmijnhgkaaDoorKw
import Derived.Test.YtfljkcmijnhgkaaDoorKb
namespace Go.Proofs.YtfljkcmijnhgkaaDoor
open Go.RowKit Go.Shelf
set_option linter.unusedSimpArgs false

/-- The slice v reads as bytes, which lie in a block before g. -/
def RdB (w : World) (g : Nat) (v : Value) (n : Nat) : Prop := ∃ (A : Option Addr) (c : Nat), v = .slice A n c ∧ n ≤ c ∧ n ≤ 140737488355328 ∧
  (0 < n → ∃ b off, A = some ⟨b, off, none⟩ ∧ b < g ∧ ∀ j, j < n → ∃ x : Int, (0 ≤ x ∧ x < 256) ∧ w.cell? ⟨b, off + j, none⟩ = some (.int .u8 x))
/-- A sack in block g: at most so many numbers were drawn. -/
def SackAt (w : World) (g N : Nat) : Prop := ∃ v n, ∃ k : Nat, ∃ st : Int, w.heap[g]? = some (.cells #[v, .int .i64 k, .int .u64 st] 102 (0, 0)) ∧ RdB w g v n ∧ k ≤ N ∧ (0 ≤ st ∧ st < 18446744073709551616)
/-- The sack's block while a number is drawn. -/
def SackIn (w wx : World) (g N : Nat) (A : Option Addr) (n c : Nat) : Prop := ∃ (k : Nat) (st : Int), k ≤ N ∧ wx.heap[g]? = some (.cells #[.slice A n c, .int .i64 k, .int .u64 st] 102 (0, 0)) ∧ (0 ≤ st ∧ st < 18446744073709551616) ∧ Btw g (g + 1) w wx
theorem sack_cells {wx : World} {g : Nat} {a b c : Value} {t : TypeId} (hg : wx.heap[g]? = some (.cells #[a, b, c] t (0, 0))) : wx.cell? ⟨g, 0, none⟩ = some a ∧ wx.cell? ⟨g, 1, none⟩ = some b ∧ wx.cell? ⟨g, 2, none⟩ = some c ∧ wx.frozen? ⟨g, 1, none⟩ = false ∧ wx.frozen? ⟨g, 2, none⟩ = false :=
  ⟨by unfold World.cell?; rw [hg]; rfl, by unfold World.cell?; rw [hg]; rfl, by unfold World.cell?; rw [hg]; rfl, by unfold World.frozen?; rw [hg]; rfl, by unfold World.frozen?; rw [hg]; rfl⟩
theorem u64_bits (op : BinOp) (a b : Int) : 0 ≤ bits op .u64 a b ∧ bits op .u64 a b < 18446744073709551616 := by
  have := bits_within op .u64 a b
  have h1 : IntKind.min .u64 = 0 := by decide
  have h2 : IntKind.max .u64 = 18446744073709551615 := by decide
  omega
theorem u64_wrap (x : Int) : 0 ≤ IntKind.u64.wrap x ∧ IntKind.u64.wrap x < 18446744073709551616 := by
  have := wrap_within .u64 x
  have h1 : IntKind.min .u64 = 0 := by decide
  have h2 : IntKind.max .u64 = 18446744073709551615 := by decide
  omega
theorem btw_set {g k : Nat} (w : World) (v : Value) : Btw g (g + 1) w (w.setCell ⟨g, k, none⟩ v) := ⟨rfl, rfl, rfl, by simp [World.setCell], fun q _ hq => Below.heap_setCell _ _ _ _ (by show q ≠ g; omega)⟩
theorem btw_drew {lo hi : Nat} (w : World) : Btw lo hi w w.drew := ⟨rfl, rfl, rfl, Nat.le_refl _, fun _ _ _ => rfl⟩
set_option maxRecDepth 100000 in
set_option maxHeartbeats 3200000 in
theorem draw_any (g N : Nat) (w : World) (h : SackAt w g N) (hN : N ≤ 1000000) :
    Calls Tryd.prog 138 #[.pointer (some ⟨g, 0, none⟩)] w fun e w' => (∃ x : Int, e = .returned (.int .u64 x) ∧ 0 ≤ x ∧ x < 18446744073709551616) ∧ SackAt w' g (N + 1) ∧ Btw g (g + 1) w w' := by
  obtain ⟨v, n, k, st, hg, ⟨A, c, rfl, n1, n2, hb⟩, hk, hst⟩ := h
  obtain ⟨c0, c1, c2, f1, f2⟩ := sack_cells hg
  replace hb := Lib.hid hb
  have hg0 := Lib.hid hg
  clear hg
  go_enter Tryd.func138, Tryd.ntmps138
  go_upto_if 8 with fail
  go_cut [] (fun wx => SackIn w wx g (N + 1) A n c)
  case first =>
    by_cases h0 : n = 0
    · subst h0
      have hS : SackIn w w g (N + 1) A 0 c := ⟨k, st, by omega, hg0.out, hst, Btw.refl _ _ _⟩
      replace hS := Lib.hid hS
      go_wp2_with fail
      go_meet
      exact hS.out
    · have hp : 0 < n := by omega
      have hp2 : (0 : Int) < (n : Int) := by omega
      obtain ⟨b, off, rfl, -, hcc⟩ := hb.out hp
      obtain ⟨x, hx, hcx⟩ := hcc (k % n) (Nat.mod_lt _ hp)
      have ht : (k : Int).tmod (n : Int) = ((k % n : Nat) : Int) := by rw [Int.tmod_eq_emod_of_nonneg (by omega)]; exact (Int.natCast_emod k n).symm
      have q1 : ((k % n : Nat) : Int) < (n : Int) := by have := Nat.mod_lt k hp; omega
      have q0 : (0 : Int) ≤ ((k % n : Nat) : Int) := by omega
      have hn0 : ((n : Int) == 0) = false := by rw [beq_eq_false_iff_ne]; omega
      generalize k % n = m at *
      clear hcc
      go_wp2
      go_still_tail 25, (by kernel_rfl)
      change wpList _ _ _ _ _ w.drew
      replace c0 : w.drew.cell? _ = _ := c0
      replace c1 : w.drew.cell? _ = _ := c1
      replace c2 : w.drew.cell? _ = _ := c2
      replace f1 : w.drew.frozen? _ = _ := f1
      replace f2 : w.drew.frozen? _ = _ := f2
      have hgd : Hid (w.drew.heap[g]? = some (.cells #[.slice (some ⟨b, off, none⟩) n c, .int .i64 k, .int .u64 st] 102 (0, 0))) := hg0
      have hbd := Lib.hid (btw_drew (lo := g) (hi := g + 1) w)
      clear hcx
      generalize w.drew = wd at *
      go_wp2_with fail
      go_meet
      exact ⟨k + 1, _, by omega, heap_set1 _ (heap_set1 _ hgd.out), u64_wrap _, hbd.out.trans ((btw_set wd _).trans (btw_set _ _))⟩
  case rest =>
    clear c0 c1 c2 f1 f2 hst hk hg0
    rename World => w0
    obtain ⟨k, st, hk, hg, hst, hbt⟩ := hcut
    obtain ⟨c0, c1, c2, f1, f2⟩ := sack_cells hg
    have hgd := Lib.hid hg
    have hbd := Lib.hid hbt
    clear hg hbt
    go_upto_region 4 with fail
    go_cut [] (fun wx => SackIn w wx g (N + 1) A n c)
    case first =>
      go_still_tail 12, (by kernel_rfl)
      change wpList _ _ _ _ _ w0.drew
      replace c2 : w0.drew.cell? _ = _ := c2
      replace f2 : w0.drew.frozen? _ = _ := f2
      have hgx : Hid (w0.drew.heap[g]? = some (.cells #[.slice A n c, .int .i64 k, .int .u64 st] 102 (0, 0))) := hgd
      have hbx := Lib.hid (hbd.out.trans (btw_drew (lo := g) (hi := g + 1) w0))
      clear c0 c1 f1 hgd hbd
      generalize w0.drew = wd at *
      go_wp2_with fail
      go_meet
      exact ⟨k, _, hk, heap_set1 _ hgx.out, u64_bits _ _ _, hbx.out.trans (btw_set wd _)⟩
    case rest =>
    clear c0 c1 c2 f1 f2 hst hk hgd hbd
    obtain ⟨k, st, hk, hg, hst, hbt⟩ := hcut
    rename World => w0
    obtain ⟨c0, c1, c2, f1, f2⟩ := sack_cells hg
    have hgd := Lib.hid hg
    have hbd := Lib.hid hbt
    clear hg hbt
    go_upto_region 5 with fail
    go_cut [] (fun wx => SackIn w wx g (N + 1) A n c)
    case first =>
      go_still_tail 12, (by kernel_rfl)
      change wpList _ _ _ _ _ w0.drew
      replace c2 : w0.drew.cell? _ = _ := c2
      replace f2 : w0.drew.frozen? _ = _ := f2
      have hgx : Hid (w0.drew.heap[g]? = some (.cells #[.slice A n c, .int .i64 k, .int .u64 st] 102 (0, 0))) := hgd
      have hbx := Lib.hid (hbd.out.trans (btw_drew (lo := g) (hi := g + 1) w0))
      clear c0 c1 f1 hgd hbd
      generalize w0.drew = wd at *
      go_wp2_with fail
      go_meet
      exact ⟨k, _, hk, heap_set1 _ hgx.out, u64_bits _ _ _, hbx.out.trans (btw_set wd _)⟩
    case rest =>
    clear c0 c1 c2 f1 f2 hst hk hgd hbd
    obtain ⟨k, st, hk, hg, hst, hbt⟩ := hcut
    rename World => w0
    obtain ⟨c0, c1, c2, f1, f2⟩ := sack_cells hg
    have hgd := Lib.hid hg
    have hbd := Lib.hid hbt
    clear hg hbt
    go_upto_region 6 with fail
    go_cut [] (fun wx => SackIn w wx g (N + 1) A n c)
    case first =>
      go_still_tail 12, (by kernel_rfl)
      change wpList _ _ _ _ _ w0.drew
      replace c2 : w0.drew.cell? _ = _ := c2
      replace f2 : w0.drew.frozen? _ = _ := f2
      have hgx : Hid (w0.drew.heap[g]? = some (.cells #[.slice A n c, .int .i64 k, .int .u64 st] 102 (0, 0))) := hgd
      have hbx := Lib.hid (hbd.out.trans (btw_drew (lo := g) (hi := g + 1) w0))
      clear c0 c1 f1 hgd hbd
      generalize w0.drew = wd at *
      go_wp2_with fail
      go_meet
      exact ⟨k, _, hk, heap_set1 _ hgx.out, u64_bits _ _ _, hbx.out.trans (btw_set wd _)⟩
    case rest =>
    clear c0 c1 c2 f1 f2 hst hk hgd hbd
    obtain ⟨k, st, hk, hg, hst, hbt⟩ := hcut
    rename World => w0
    obtain ⟨c0, c1, c2, f1, f2⟩ := sack_cells hg
    have hgd := Lib.hid hg
    have hbd := Lib.hid hbt
    have hbb := Lib.hid (show SackAt w0 g (N + 1) from ⟨_, n, k, st, hg, ⟨A, c, rfl, n1, n2, fun hp => by
      obtain ⟨b, off, e, hne, h⟩ := hb.out hp
      exact ⟨b, off, e, hne, fun j hj => by
        obtain ⟨x, hx, hc⟩ := h j hj
        exact ⟨x, hx, (World.cell?_of_block (a := ⟨b, off + j, none⟩) (hbt.block b (World.block_lt_of_cell? w _ hc) (by omega))).trans hc⟩⟩⟩, hk, hst⟩)
    clear hg hbt
    go_wp2
    go_ret
    have hw := u64_wrap (st * 2685821657736338717)
    exact ⟨⟨_, rfl, by omega, by omega⟩, hbb.out, hbd.out⟩
theorem SackAt.low {g N B : Nat} {w w' : World} (h : SackAt w g N) (hb : Below B w w') (hB : g < B) : SackAt w' g N := by
  obtain ⟨v, n, k, st, hg, ⟨A, c, rfl, n1, n2, hbb⟩, hk, hst⟩ := h
  refine ⟨_, n, k, st, (hb.block g hB).trans hg, ⟨A, c, rfl, n1, n2, fun hp => ?_⟩, hk, hst⟩
  obtain ⟨b, off, e, hne, h⟩ := hbb hp
  exact ⟨b, off, e, hne, fun j hj => by
    obtain ⟨x, hx, hc⟩ := h j hj
    exact ⟨x, hx, (hb.cell (p := ⟨b, off + j, none⟩) (by show b < B; omega)).trans hc⟩⟩
theorem SackAt.lt {g N : Nat} {w : World} (h : SackAt w g N) : g < w.heap.size := by
  obtain ⟨v, n, k, st, hg, -⟩ := h
  exact lt_of_block hg
theorem SackAt.mono {g N M : Nat} {w : World} (h : SackAt w g N) (hm : N ≤ M) : SackAt w g M := by
  obtain ⟨v, n, k, st, hg, hb, hk, hst⟩ := h
  exact ⟨v, n, k, st, hg, hb, by omega, hst⟩
theorem SackAt.kept {g N : Nat} {w w' : World} (h : SackAt w g N) (hb : Below w.heap.size w w') : SackAt w' g N := h.low hb h.lt
theorem Btw.then_ {lo hi B : Nat} {w w' w'' : World} (h : Btw lo hi w w') (k : Below B w' w'') (hB : w.heap.size ≤ B) : Btw lo hi w w'' :=
  ⟨k.os.trans h.os, k.tape.trans h.tape, k.output.trans h.output, Nat.le_trans h.size k.size, fun i hi hn => (k.block i (by omega)).trans (h.block i hi hn)⟩
theorem Btw.ownMv {lo hi : Nat} {w w' : World} (h : Btw lo hi w w') {base : Nat} {v : Value} {rs : List (List Int)} {vs : List Value} (ho : OwnMv w base v rs vs) (hb : hi ≤ base) : OwnMv w' base v rs vs :=
  ⟨h.owns ho.outer hb, fun j r u hr hu => h.owns (ho.rows j r u hr hu) hb, ho.apart⟩
set_option maxHeartbeats 800000 in
theorem Below_any (g N : Nat) (n : Int) (w : World) (h : SackAt w g N) (hN : N ≤ 1000000) (hn : 0 < n ∧ n ≤ 1000000) :
    Calls Tryd.prog 88 #[.pointer (some ⟨g, 0, none⟩), .int .i64 n] w fun e w' => (∃ x : Int, e = .returned (.int .i64 x) ∧ 0 ≤ x ∧ x < n) ∧ SackAt w' g (N + 1) ∧ Btw g (g + 1) w w' := by
  have hd := Lib.hid (draw_any g N w h hN)
  have hmx : max 1 n = n := by omega
  have hw : IntKind.u64.wrap n = n := by rw [IntKind.wrap_u64]; omega
  have hn0 : (n == 0) = false := by rw [beq_eq_false_iff_ne]; omega
  go_enter Tryd.func88, Tryd.ntmps88
  go_wp2_with fail
  refine hd.out.mono ?_; rintro e W ⟨⟨x, rfl, hx0, hx1⟩, hS, hB⟩
  have ht : x.tmod n = x % n := Int.tmod_eq_emod_of_nonneg hx0
  have hb1 : 0 ≤ x % n := Int.emod_nonneg _ (by omega)
  have hb2 : x % n < n := Int.emod_lt_of_pos _ (by omega)
  have hwx : wrap64 (x % n) = x % n := by unfold wrap64; omega
  replace hS := Lib.hid hS
  replace hB := Lib.hid hB
  have hz0 : wrap64 0 = 0 := by unfold wrap64; omega
  go_wp2
  all_goals go_ret
  all_goals first | exact ⟨⟨_, rfl, hb1, hb2⟩, hS.out, hB.out⟩ | exact ⟨⟨_, rfl, by omega, by omega⟩, hS.out, hB.out⟩
end Go.Proofs.YtfljkcmijnhgkaaDoor

namespace Go.Proofs.YtfljkcmijnhgkaaDoor
open Go.RowKit Go.Shelf
set_option linter.unusedSimpArgs false

set_option maxHeartbeats 800000 in
theorem Rare_any (g N : Nat) (n : Int) (w : World) (h : SackAt w g N) (hN : N ≤ 1000000) (hn : 0 < n ∧ n ≤ 1000000) :
    Calls Tryd.prog 97 #[.pointer (some ⟨g, 0, none⟩), .int .i64 n] w fun e w' => (∃ b : Bool, e = .returned (.bool b)) ∧ SackAt w' g (N + 1) ∧ Btw g (g + 1) w w' := by
  have hd := Lib.hid (Below_any g N n w h hN hn)
  go_enter Tryd.func97, Tryd.ntmps97
  go_wp2_with fail
  refine hd.out.mono ?_; rintro e W ⟨⟨x, rfl, hx0, hx1⟩, hS, hB⟩
  replace hS := Lib.hid hS
  replace hB := Lib.hid hB
  go_wp2
  go_ret
  exact ⟨⟨_, rfl⟩, hS.out, hB.out⟩
set_option maxHeartbeats 1600000 in
theorem draws_any (g N : Nat) (w : World) (h : SackAt w g N) (hN : N ≤ 999990) :
    Calls Tryd.prog 87 #[.pointer (some ⟨g, 0, none⟩)] w fun e w' => (∃ x : Int, e = .returned (.int .i64 x) ∧ 0 ≤ x ∧ x < 65521) ∧ SackAt w' g (N + 2) ∧ Btw g (g + 1) w w' := by
  have hd := Lib.hid (Below_any g N 6 w h (by omega) (by decide))
  go_enter Tryd.func87, Tryd.ntmps87
  go_wp2_with fail
  refine hd.out.mono ?_; rintro e W ⟨⟨x, rfl, hx0, hx1⟩, hS, hB⟩
  have h2 := Lib.hid (fun n (hn : 0 < n ∧ n ≤ 1000000) => Below_any g (N + 1) n W hS (by omega) hn)
  clear hS
  replace hB := Lib.hid hB
  by_cases e0 : x = 0
  · subst e0
    go_wp2_with fail
    refine (h2.out _ (by decide)).mono ?_; rintro e W2 ⟨⟨y, rfl, hy0, hy1⟩, hS, hB2⟩
    replace hS := Lib.hid hS
    replace hB2 := Lib.hid (hB.out.trans hB2)
    go_wp2
    go_ret
    exact ⟨⟨_, rfl, hy0, hy1⟩, hS.out, hB2.out⟩
  by_cases e1 : x = 1
  · subst e1
    go_wp2_with fail
    refine (h2.out _ (by decide)).mono ?_; rintro e W2 ⟨⟨y, rfl, hy0, hy1⟩, hS, hB2⟩
    replace hS := Lib.hid hS
    replace hB2 := Lib.hid (hB.out.trans hB2)
    go_wp2
    go_ret
    exact ⟨⟨_, rfl, by omega, by omega⟩, hS.out, hB2.out⟩
  · have q0 : (x == 0) = false := by rw [beq_eq_false_iff_ne]; exact e0
    have q1 : (x == 1) = false := by rw [beq_eq_false_iff_ne]; exact e1
    go_wp2_with fail
    refine (h2.out _ (by decide)).mono ?_; rintro e W2 ⟨⟨y, rfl, hy0, hy1⟩, hS, hB2⟩
    replace hS := Lib.hid hS
    replace hB2 := Lib.hid (hB.out.trans hB2)
    go_wp2
    go_ret
    exact ⟨⟨_, rfl, by omega, by omega⟩, hS.out, hB2.out⟩
/-- A row more, beside a sack that was drawn from. -/
theorem snoc_btw {wr w2 w1 : World} {base g n : Nat} {o v2 v' : Value} {rs : List (List Int)} {r : List Int} {vs : List Value} (hM : OwnMv wr base o rs vs) (hg : g < base) (hbs : base ≤ wr.heap.size) (hb2 : Btw g (g + 1) wr w2) (ho2 : OwnI w2 wr.heap.size v2 r) (hn : n = rs.length + 1)
    (hown1 : w1.ownsRow base 23 1 v' n (vs ++ [v2])) (hgrow : (w2.alloc (.cells #[v2] 23)).grownBy w1 o.ownBlock) :
    Below base w2 w1 ∧ ∃ vs', OwnMv w1 base v' (rs ++ [r]) vs' := by
  have ha : Below w2.heap.size w2 (w2.alloc (.cells #[v2] 23)) := (Below.refl _ _).alloc (Nat.le_refl _) _
  have hM3 := (hb2.ownMv hM (by omega)).kept ha
  have hz := hb2.size
  refine ⟨((Below.refl base w2).alloc (by omega) _).grown hgrow (by simp; omega) (fun k hk => (hM3.outer.lt k hk).1), _, hM3.snoc ((ho2.below ha).base hbs) (fun x hx => ?_) hown1 hn hgrow⟩
  by_cases hx0 : x.ownBlock = none
  · exact .inl hx0
  · obtain ⟨k, hk⟩ := Option.ne_none_iff_exists'.1 hx0
    refine .inr fun e => ?_
    have h1 := (hM.ge x hx k hk).2
    have h2 := (World.ownsRow.lt ho2 k (by rw [← e]; exact hk)).1
    omega
/-- Numbers below the prime. -/
def okL (xs : List Int) (m : Nat) : Prop := xs.length = m ∧ ∀ x ∈ xs, 0 ≤ x ∧ x < 65521
theorem okL.snoc {xs : List Int} {m : Nat} (h : okL xs m) {x : Int} (hx : 0 ≤ x ∧ x < 65521) : okL (xs ++ [x]) (m + 1) :=
  ⟨by simp [h.1], fun y hy => by
    rcases List.mem_append.1 hy with hy | hy
    · exact h.2 y hy
    · rw [List.mem_singleton.1 hy]; exact hx⟩
theorem okM.snoc {M : List (List Int)} {n m : Nat} (h : okM M n m) {r : List Int} (hr : okL r m) : okM (M ++ [r]) (n + 1) m :=
  ⟨by simp [h.1], fun y hy => by
    rcases List.mem_append.1 hy with hy | hy
    · exact h.2 y hy
    · rw [List.mem_singleton.1 hy]; exact hr⟩
theorem okM.put {M : List (List Int)} {n m i k : Nat} (h : okM M n m) (hi : i < n) {x : Int} (hx : 0 ≤ x ∧ x < 65521) : okM (M.set i ((M.getD i []).set k x)) n m :=
  ⟨by rw [List.length_set, h.1], fun y hy => by
    rcases List.mem_or_eq_of_mem_set hy with hy | rfl
    · exact h.2 y hy
    · refine ⟨by rw [List.length_set, h.row hi], fun z hz => ?_⟩
      rcases List.mem_or_eq_of_mem_set hz with hz | rfl
      · exact h.mem hi z hz
      · exact hx⟩
set_option maxRecDepth 100000 in
set_option maxHeartbeats 6400000 in
theorem matrix_any (g N n m : Nat) (w : World) (h : SackAt w g N) (hN : N ≤ 900000) (hn : 0 < n) (hn12 : n ≤ 12) (hm : 0 < m) (hm12 : m ≤ 12) :
    Calls Tryd.prog 25 #[.pointer (some ⟨g, 0, none⟩), .int .i64 n, .int .i64 m] w fun e w' => (∃ v M, e = .returned v ∧ okM M n m ∧ OwnM w' w.heap.size v M) ∧ SackAt w' g (N + 400) ∧ Btw g (g + 1) w w' := by
  obtain ⟨iI, hiI, hI0, hI1, hI2⟩ := info_parts infoI
  obtain ⟨iR, hiR, hR0, hR1, hR2⟩ := info_parts infoR
  have hgs := h.lt
  have hS0 := Lib.hid h
  clear h
  go_enter Tryd.func25, Tryd.ntmps25
  go_wp2
  go_loopw [7, 8, 12, 15] (fun rv _ ii _ wr => ∃ k : Nat, k ≤ n ∧ ii = .int .i64 k ∧ Hid (SackAt wr g (N + 24 * k)) ∧ Hid (Btw g (g + 1) w wr) ∧ Hid (∃ vs M, okM M k m ∧ OwnMv wr w.heap.size rv M vs)) (fun _ _ ii _ _ => n - (intOf ii).toNat)
  case atStart => exact ⟨0, Nat.zero_le _, rfl, hS0, Lib.hid (Btw.refl _ _ _), Lib.hid ⟨[], [], ⟨rfl, fun r hr => by cases hr⟩, OwnMv_nil _ _⟩⟩
  case round =>
    obtain ⟨k, hk, rfl, hS, hB, hM⟩ := hrel
    rename World => wr
    by_cases hlt : k < n
    · have k1 : (k : Int) < (n : Int) := by omega
      have k0 : (0 : Int) ≤ (k : Int) := by omega
      obtain ⟨vs, M, hok, hMv⟩ := hM.out
      obtain ⟨A1, c1, rfl⟩ := own_shape hMv.outer
      have hkl := hok.len
      rw [hkl] at hMv ⊢
      have hBs := hB.out.size
      have hgr : g < wr.heap.size := by omega
      replace hMv := Lib.hid hMv
      replace hok := Lib.hid hok
      replace hkl := Lib.hid hkl
      clear hM
      go_wp2
      go_loopw [8, 15] (fun ro jj w2 => ∃ q : Nat, q ≤ m ∧ jj = .int .i64 q ∧ Hid (SackAt w2 g (N + 24 * k + 2 * q)) ∧ Hid (Btw g (g + 1) wr w2) ∧ Hid (∃ xs, okL xs q ∧ OwnI w2 wr.heap.size ro xs)) (fun _ jj _ => m - (intOf jj).toNat)
      case atStart => exact ⟨0, Nat.zero_le _, rfl, hS, Lib.hid (Btw.refl _ _ _), Lib.hid ⟨[], ⟨rfl, fun r hr => by cases hr⟩, OwnI_nil _ _⟩⟩
      case round =>
        obtain ⟨q, hq, rfl, hS2, hB2, hX⟩ := hrel
        rename World => w2
        by_cases hqm : q < m
        · have j1 : (q : Int) < (m : Int) := by omega
          have j0 : (0 : Int) ≤ (q : Int) := by omega
          obtain ⟨xs, hxs, ho⟩ := hX.out
          obtain ⟨B1, d1, rfl⟩ := own_shape ho
          have hxl := hxs.1
          rw [hxl]
          replace ho := Lib.hid ho
          replace hxs := Lib.hid hxs
          replace hxl := Lib.hid hxl
          have hd := Lib.hid (draws_any g _ w2 hS2.out (by omega))
          clear hX hS2
          go_wp2_with fail
          refine hd.out.mono ?_; rintro e W ⟨⟨x, rfl, hx0, hx1⟩, hS3, hB3⟩
          have hz2 := hB2.out.size
          have hz3 := hB3.size
          have how : Hid ((W.alloc (.cells #[.int .i64 x] 3)).ownsRow wr.heap.size 3 1 (.slice B1 q d1) q (ints xs)) := Lib.hid (by
            have := (hB3.ownI ho.out (by omega)).below ((Below.refl W.heap.size W).alloc (Nat.le_refl _) (.cells #[.int .i64 x] 3))
            unfold OwnI at this
            rwa [hxl.out] at this)
          have hB4 := Lib.hid (hB2.out.trans hB3)
          have hS4 := Lib.hid hS3
          clear hB3 hS3 hd
          go_wp2_with (at_builtin; (refine wpList_append_own_at _ rfl _ _ 23 rfl wr.heap.size 3 iI _ 1 8 Tryd.underlying23 hiI hI0 hI1 hI2 rfl (by omega) (.slice B1 q d1) q (ints xs) rfl how.out ⟨W.heap.size, 0, none⟩ 1 1 [.int .i64 x] rfl rfl (cell_one_new W _ _) (by simp [Value.oneCell']) (by unfold maxLen; omega) (by omega) (by simp; omega) ?_); intro v' w1 hown1 hgrow _ _)
          have hfin := Lib.hid (own_snoc hxl.out hown1)
          have hBw := ((Below.refl wr.heap.size W).alloc (by omega) (.cells #[.int .i64 x] 3)).grown hgrow (by simp; omega) (fun q hq => (how.out.lt q hq).1)
          have hS5 := Lib.hid (hS4.out.low hBw (by omega))
          have hB5 := Lib.hid (hB4.out.then_ hBw (Nat.le_refl _))
          clear hown1 hgrow hBw
          go_wp2
          go_roundw
          case rel => exact ⟨q + 1, by omega, by go_num, hS5, hB5, Lib.hid ⟨_, hxs.out.snoc ⟨hx0, hx1⟩, hfin.out⟩⟩
          case measure => simp [intOf]; omega
        · obtain rfl : q = m := by omega
          obtain ⟨xs, hxs, ho⟩ := hX.out
          obtain ⟨B1, d1, rfl⟩ := own_shape ho
          have hxl := hxs.1
          rw [hxl]
          have hz2 := hB2.out.size
          have hw3 : Hid ((w2.alloc (.cells #[.slice B1 q d1] 23)).ownsRow w.heap.size 23 1 (.slice A1 k c1) k vs) := Lib.hid (by
            have := ((hB2.out.ownMv hMv.out (by omega)).kept ((Below.refl w2.heap.size w2).alloc (Nat.le_refl _) (.cells #[.slice B1 q d1] 23))).outer
            rwa [hkl.out] at this)
          rw [hxl] at ho
          replace ho := Lib.hid ho
          replace hxs := Lib.hid hxs
          clear hX hxl
          go_wp2_with (at_builtin; (refine wpList_append_own_at _ rfl _ _ 22 rfl w.heap.size 23 iR _ 1 24 Tryd.underlying22 hiR hR0 hR1 hR2 rfl (by omega) (.slice A1 k c1) k vs rfl hw3.out ⟨w2.heap.size, 0, none⟩ 1 1 [.slice B1 q d1] rfl rfl (cell_one_new w2 _ _) (by simp [Value.oneCell']) (by unfold maxLen; omega) (by omega) (by simp; omega) ?_); intro v' w1 hown1 hgrow _ _)
          obtain ⟨g1, g2⟩ := snoc_btw (g := g) hMv.out (by omega) hBs hB2.out ho.out (by rw [hkl.out]) hown1 hgrow
          have hS5 := Lib.hid (hS2.out.low g1 (by omega))
          have hB5 := Lib.hid ((hB.out.trans hB2.out).then_ g1 (Nat.le_refl _))
          replace g2 := Lib.hid g2
          clear hown1 hgrow g1
          go_wp2
          go_roundw
          case rel => exact ⟨k + 1, by omega, by go_num, Lib.hid (hS5.out.mono (by omega)), hB5, Lib.hid (by obtain ⟨vs', h⟩ := g2.out; exact ⟨vs', _, hok.out.snoc hxs.out, h⟩)⟩
          case measure => simp [intOf]; omega
    · obtain rfl : k = n := by omega
      obtain ⟨vs, M, hok, hMv⟩ := hM.out
      obtain ⟨A1, c1, rfl⟩ := own_shape hMv.outer
      have hkl := hok.len
      rw [hkl] at hMv ⊢
      have hBs := hB.out.size
      replace hMv := Lib.hid hMv
      replace hok := Lib.hid hok
      replace hkl := Lib.hid hkl
      clear hM
      by_cases h2 : 2 < k
      · have h2' : (2 : Int) < (k : Int) := by omega
        have hra := Lib.hid (Rare_any g _ 3 wr hS.out (by omega) (by decide))
        go_wp2_with fail
        refine hra.out.mono ?_; rintro e W ⟨⟨b, rfl⟩, hS1, hB1⟩
        replace hMv := Lib.hid (hB1.ownMv hMv.out (by omega))
        have hz := hB1.size
        replace hB := Lib.hid (hB.out.trans hB1)
        clear hS hra hB1
        cases b with
        | false =>
          replace hS1 := Lib.hid hS1
          go_wp2
          go_ret
          exact ⟨⟨_, _, rfl, hok.out, hMv.out.m⟩, hS1.out.mono (by omega), hB.out⟩
        | true =>
          have hd := Lib.hid (draws_any g _ W hS1 (by omega))
          clear hS1
          go_wp2_with fail
          refine hd.out.mono ?_; rintro e X ⟨⟨y, rfl, hy0, hy1⟩, hS1, hB1⟩
          replace hMv := Lib.hid (hB1.ownMv hMv.out (by omega))
          have hz1 := hB1.size
          replace hB := Lib.hid (hB.out.trans hB1)
          have hge := Lib.hid hMv.out.ge
          have hvl : Hid (vs.length = k) := Lib.hid (by have := hMv.out.len; rwa [hkl.out] at this)
          replace hS1 := Lib.hid hS1
          clear hd hB1
          have toB : Hid (∀ wr, KeptBut vs X wr → Below w.heap.size X wr) := Lib.hid (fun wr hK => hK.below (by omega) (fun u hu q hq => (hge.out u hu q hq).1))
          have hr0 : M[0]? = some (M.getD 0 []) := by rw [List.getD_eq_getElem?_getD, List.getElem?_eq_getElem (by rw [hkl.out]; omega)]; rfl
          obtain ⟨gb, cb, e1, gb0, gb1, hc0, -⟩ := hMv.out.at_ hr0 (List.getElem?_eq_getElem (show 0 < vs.length by rw [hvl.out]; omega))
          rw [hkl.out] at e1
          simp only [Value.slice.injEq] at e1
          obtain ⟨rfl, -, rfl⟩ := e1
          have hv0 := hMv.out.rows 0 _ _ hr0 (List.getElem?_eq_getElem (show 0 < vs.length by rw [hvl.out]; omega))
          obtain ⟨A0, c0, hv0⟩ := own_shape hv0
          rw [hok.out.row hn] at hv0
          rw [hv0] at hc0
          clear hr0 hv0
          go_wp2
          go_loopw [10, 40] (fun _ jj wr => ∃ q : Nat, q ≤ m ∧ jj = .int .i64 q ∧ Hid (KeptBut vs X wr) ∧ Hid (∃ M, okM M k m ∧ OwnMv wr w.heap.size (.slice (some ⟨gb, 0, none⟩) k c1) M vs)) (fun _ jj _ => m - (intOf jj).toNat)
          case atStart => exact ⟨0, Nat.zero_le _, rfl, Lib.hid (KeptBut.refl _ _), Lib.hid ⟨_, hok.out, hMv.out⟩⟩
          case round =>
            obtain ⟨q, hq, rfl, hK, hX⟩ := hrel
            rename World => wr
            by_cases hqm : q < m
            · have j1 : (q : Int) < (m : Int) := by omega
              have j0 : (0 : Int) ≤ (q : Int) := by omega
              clear hok hMv hkl hc0
              obtain ⟨M, hok, hMv⟩ := hX.out
              clear hX
              have hkl := hok.len
              have hrow : ∀ i (hi : i < k), M[i]? = some (M.getD i []) ∧ ∃ gi ci, vs[i]? = some (.slice (some ⟨gi, 0, none⟩) m ci) ∧ wr.cell? ⟨gb, i, none⟩ = some (.slice (some ⟨gi, 0, none⟩) m ci) ∧ wr.cell? ⟨gi, q, none⟩ = some (.int .i64 (gM M i q)) ∧ wr.frozen? ⟨gi, q, none⟩ = false := fun i hi => by
                have hr : M[i]? = some (M.getD i []) := by rw [List.getD_eq_getElem?_getD, List.getElem?_eq_getElem (by omega)]; rfl
                have hu : vs[i]? = some (vs[i]'(by rw [hvl.out]; exact hi)) := List.getElem?_eq_getElem (by rw [hvl.out]; exact hi)
                obtain ⟨gb', cb', e1, -, -, hc, -⟩ := hMv.at_ hr hu
                simp only [Value.slice.injEq, Option.some.injEq, Addr.mk.injEq, and_true] at e1
                obtain ⟨rfl, -, -⟩ := e1
                obtain ⟨gi, ci, e2, -, -, hx, hf⟩ := hMv.num hr hu (k := q) (by rw [hok.row hi]; exact hqm)
                rw [hok.row hi] at e2
                rw [e2] at hu hc
                exact ⟨hr, gi, ci, hu, hc, hx, hf⟩
              obtain ⟨-, ga, ca, -, ha1, ha2, -⟩ := hrow 0 hn
              obtain ⟨-, gc, cc, -, hc1, hc2, -⟩ := hrow 1 (by omega)
              obtain ⟨hrl, gl, cl, hul, hl1, hl2, hlf⟩ := hrow (k - 1) (by omega)
              have hput := (hMv.kept ((Below.refl wr.heap.size wr).drew)).put hrl hul (k := q) ((gM M 0 q + y * gM M 1 q) % 65521)
              have hok2 := Lib.hid (hok.put (i := k - 1) (k := q) (x := (gM M 0 q + y * gM M 1 q) % 65521) (by omega) ⟨Int.emod_nonneg _ (by decide), Int.emod_lt_of_pos _ (by decide)⟩)
              have hput2 := Lib.hid hput.1
              have hK2 := Lib.hid (hK.out.drew.trans hput.2)
              have ⟨s1, s2⟩ := hok.num 0 q
              have ⟨n1, n2⟩ := hok.num 1 q
              have ⟨m1, m2⟩ := mul_bd hy0 hy1 n1 n2
              clear hput hrow hK hMv hok hrl hul hkl
              generalize gM M 0 q = a at *
              generalize gM M 1 q = b at *
              have e1 : ((k : Int) - 1) = ((k - 1 : Nat) : Int) := by omega
              have p1 : ((k - 1 : Nat) : Int) < (k : Int) := by omega
              have p0 : (0 : Int) ≤ ((k - 1 : Nat) : Int) := by omega
              have p2 : (1 : Int) < (k : Int) := by omega
              generalize hkk : k - 1 = kk at *
              replace hkk := Lib.hid hkk
              have w1 : IntKind.i64.wrap (kk : Int) = (kk : Int) := IntWalk.i64_in _ ⟨by omega, by omega⟩
              have w3 : IntKind.i64.wrap (y * b) = y * b := IntWalk.i64_in _ ⟨by omega, by omega⟩
              have w4 : IntKind.i64.wrap (a + y * b) = a + y * b := IntWalk.i64_in _ ⟨by omega, by omega⟩
              have w5 : (a + y * b).tmod 65521 = (a + y * b) % 65521 := Int.tmod_eq_emod_of_nonneg (by omega)
              go_wp2
              go_still_tail 23, (by kernel_rfl)
              change wpList _ _ _ _ _ wr.drew
              replace hl2 : wr.drew.cell? _ = _ := hl2
              replace hlf : wr.drew.frozen? _ = _ := hlf
              clear ha1 ha2 hc1 hc2 hl1
              generalize wr.drew = wd at hl2 hlf hput2 hK2 ⊢
              go_wp2
              go_roundw
              case rel => exact ⟨q + 1, by omega, by go_num, hK2, Lib.hid ⟨_, hok2.out, hput2.out⟩⟩
              case measure => simp [intOf]; omega
            · obtain rfl : q = m := by omega
              clear hok hMv hkl
              obtain ⟨M, hok, hMv⟩ := hX.out
              replace hok := Lib.hid hok
              replace hMv := Lib.hid hMv
              have hBk := toB.out wr hK.out
              have hS2 := Lib.hid (hS1.out.low hBk (by omega))
              have hB2 := Lib.hid (hB.out.then_ hBk (Nat.le_refl _))
              clear hX hBk
              go_wp2
              go_ret
              exact ⟨⟨_, _, rfl, hok.out, hMv.out.m⟩, hS2.out.mono (by omega), hB2.out⟩
      · have h2' : ¬ (2 : Int) < (k : Int) := by omega
        go_wp2
        go_ret
        first | exact ⟨⟨_, _, rfl, hok.out, hMv.out.m⟩, hS.out.mono (by omega), hB.out⟩ | exact ⟨⟨_, rfl, _, hok.out, hMv.out.m⟩, hS.out.mono (by omega), hB.out⟩
end Go.Proofs.YtfljkcmijnhgkaaDoor

namespace Go.Proofs.YtfljkcmijnhgkaaDoor
open Go.RowKit Go.Shelf
set_option linter.unusedSimpArgs false

/-- Row r of the product, i terms taken, of the next one those before place k. -/
def rowT (a b : List (List Int)) (m r i k : Nat) : List Int := (List.range m).map fun y => if y < k then prS a b r y (i + 1) else prS a b r y i
theorem rowT_len (a b : List (List Int)) (m r i k : Nat) : (rowT a b m r i k).length = m := by simp [rowT]
theorem rowT_get (a b : List (List Int)) {m r i k y : Nat} (hy : y < m) : (rowT a b m r i k).getD y 0 = if y < k then prS a b r y (i + 1) else prS a b r y i := by
  rw [List.getD_eq_getElem?_getD, rowT, List.getElem?_map, List.getElem?_range hy]; rfl
theorem rowT_zero (a b : List (List Int)) (m r : Nat) : rowT a b m r 0 0 = List.replicate m 0 := by
  apply List.ext_getElem (by simp [rowT])
  intro y h1 h2
  simp [rowT, prS, psum]
theorem rowT_next (a b : List (List Int)) (m r i : Nat) : rowT a b m r i m = rowT a b m r (i + 1) 0 := by
  apply List.map_congr_left; intro y hy
  rw [if_pos (by simpa using hy), if_neg (by omega)]
theorem rowT_set (a b : List (List Int)) {m r i k : Nat} (_hk : k < m) : (rowT a b m r i k).set k ((prS a b r k i + gM a r i * gM b i k) % 65521) = rowT a b m r i (k + 1) := by
  apply List.ext_getElem (by simp [rowT])
  intro y h1 h2
  have hy : y < m := by simpa [rowT] using h2
  rw [List.getElem_set]
  simp only [rowT, List.getElem_map, List.getElem_range]
  by_cases e : k = y
  · subst e; rw [if_pos rfl, if_pos (by omega), prS_step]
  · rw [if_neg e]
    by_cases h : y < k
    · rw [if_pos h, if_pos (by omega)]
    · rw [if_neg h, if_neg (by omega)]
theorem rowT_end {a b : List (List Int)} {n l : Nat} (ha : okM a n l) {r : Nat} (hr : r < n) (m : Nat) : rowT a b m r l 0 = (List.range m).map (prodE a b r) := by
  apply List.map_congr_left; intro y hy
  rw [if_neg (by omega), prodE, ha.row hr]; rfl
set_option maxRecDepth 100000 in
set_option maxHeartbeats 6400000 in
theorem times_any (a b : List (List Int)) (n l m : Nat) (va vb : Value) (w : World) (ha : okM a n l) (hb : okM b l m) (hn : n ≤ 1000) (hl : l ≤ 1000) (hm : m ≤ 1000) (hl0 : 0 < l)
    (ra : RdM w va a) (rb : RdM w vb b) :
    Calls Tryd.prog 32 #[va, vb] w fun e w' => (∃ v, e = .returned v ∧ OwnM w' w.heap.size v (prodM a b)) ∧ Below w.heap.size w w' := by
  obtain ⟨iR, hiR, hR0, hR1, hR2⟩ := info_parts infoR
  have hP : prodM a b = mat (prodE a b) n m := by rw [prodM, ha.1, hb.len0 hl0]
  have hmk := run_make_row' (P := Tryd.prog) 23 3 _ _ Tryd.underlying23 infoI rfl .i64 .i64 m (by omega) (by omega)
  obtain ⟨A, c, rfl, h1, h2, h3⟩ := ra.open_
  obtain ⟨B, d, rfl, g1, g2, g3⟩ := rb.open_
  rw [ha.1] at *
  rw [hb.1] at *
  have na := Lib.hid ha.num
  have nb := Lib.hid hb.num
  have ha' := Lib.hid ha
  have rowa := Lib.hid (fun j (hj : j < n) => ha.row hj)
  have rowb := Lib.hid (fun j (hj : j < l) => hb.row hj)
  replace hP := Lib.hid hP
  replace h3 := Lib.hid h3
  replace g3 := Lib.hid g3
  clear ra rb ha hb
  go_enter Tryd.func32, Tryd.ntmps32
  go_wp2
  go_loopw [5, 7, 8, 9, 10, 11, 14, 25, 32] (fun o _ _ _ _ _ ii _ _ wr => ∃ k : Nat, k ≤ n ∧ ii = .int .i64 k ∧ Hid (Below w.heap.size w wr) ∧ Hid (∃ vs, OwnMv wr w.heap.size o ((mat (prodE a b) n m).take k) vs)) (fun _ _ _ _ _ _ ii _ _ _ => n - (intOf ii).toNat)
  case atStart => exact ⟨0, Nat.zero_le _, rfl, Lib.hid (Below.refl _ _), Lib.hid ⟨[], by rw [List.take_zero]; exact OwnMv_nil _ _⟩⟩
  case round =>
    obtain ⟨k, hk, rfl, hB, hM⟩ := hrel
    rename World => wr
    by_cases hlt : k < n
    · have k1 : (k : Int) < (n : Int) := by omega
      have k0 : (0 : Int) ≤ (k : Int) := by omega
      have hkl : ((mat (prodE a b) n m).take k).length = k := by rw [List.length_take, mat_len]; omega
      obtain ⟨vs, hMv⟩ := hM.out
      obtain ⟨A1, c1, rfl⟩ := own_shape hMv.outer
      rw [hkl] at hMv ⊢
      have hBs := hB.out.size
      replace hMv := Lib.hid hMv
      replace hkl := Lib.hid hkl
      obtain ⟨ba, offa, ua, rfl, hca, hua⟩ := h3.out k hlt
      obtain ⟨Aa, ca, rfl, -, -, e3⟩ := hua.open_
      rw [rowa.out k hlt] at e3 hca
      replace e3 := Lib.hid e3
      obtain ⟨bb, offb, ub, rfl, hcb, hub⟩ := g3.out 0 hl0
      obtain ⟨Ab, cb, rfl, -, -, -⟩ := hub.open_
      rw [rowb.out 0 hl0, Nat.add_zero] at hcb
      replace hca := (hB.out.cell (World.block_lt_of_cell? w _ hca)).trans hca
      replace hcb := (hB.out.cell (World.block_lt_of_cell? w _ hcb)).trans hcb
      have hl1 : (0 : Int) < (l : Int) := by omega
      have h0 := Lib.hid (OwnI_made wr wr.heap.size m (Nat.le_refl _) (by unfold maxLen; omega))
      have hB0 : Hid (Below wr.heap.size wr (wr.alloc (.cells (madeCells #[.int .i64 0] m) 3))) := Lib.hid ((Below.refl _ _).alloc (Nat.le_refl _) _)
      clear hM hua hub
      go_wp2
      generalize wr.alloc (.cells (madeCells #[.int .i64 0] m) 3) = w1 at h0 hB0 ⊢
      clear hca hcb
      go_loopw [9, 10, 11, 25, 32] (fun _ _ _ jj _ w2 => ∃ i : Nat, i ≤ l ∧ jj = .int .i64 i ∧ Hid (Below wr.heap.size wr w2) ∧ Hid (OwnI w2 wr.heap.size (.slice (some ⟨wr.heap.size, 0, none⟩) m m) (rowT a b m k i 0))) (fun _ _ _ jj _ _ => l - (intOf jj).toNat)
      case atStart => exact ⟨0, Nat.zero_le _, rfl, hB0, Lib.hid (by rw [rowT_zero]; exact h0.out)⟩
      case round =>
        obtain ⟨i, hi, rfl, hB2, hX⟩ := hrel
        rename World => w2
        by_cases hil : i < l
        · have j1 : (i : Int) < (l : Int) := by omega
          have j0 : (0 : Int) ≤ (i : Int) := by omega
          obtain ⟨ba2, offa2, rfl, hca2⟩ := e3.out i hil
          change _ = some (Value.int .i64 (gM a k i)) at hca2
          have hBt := hB.out.trans (hB2.out.mono hBs)
          replace hca2 := (hBt.cell (World.block_lt_of_cell? w _ hca2)).trans hca2
          obtain ⟨bb2, offb2, ub, eb, hcb, hub⟩ := g3.out i hil
          simp only [Option.some.injEq, Addr.mk.injEq, and_true] at eb
          obtain ⟨rfl, rfl⟩ := eb
          obtain ⟨Ab2, cb2, rfl, -, -, e4⟩ := hub.open_
          rw [rowb.out i hil] at e4 hcb
          replace e4 := Lib.hid e4
          replace hcb := Lib.hid hcb
          have ⟨n1, n2⟩ := na.out k i
          have nbi := Lib.hid (fun y => nb.out i y)
          have hstep := Lib.hid (fun y (hy : y < m) => rowT_set a b (r := k) (i := i) hy)
          clear hub
          go_wp2
          clear hca2
          generalize gM a k i = x at *
          go_loopw [11, 32] (fun _ jj w3 => ∃ y : Nat, y ≤ m ∧ jj = .int .i64 y ∧ Hid (Below wr.heap.size wr w3) ∧ Hid (OwnI w3 wr.heap.size (.slice (some ⟨wr.heap.size, 0, none⟩) m m) (rowT a b m k i y))) (fun _ jj _ => m - (intOf jj).toNat)
          case atStart => exact ⟨0, Nat.zero_le _, rfl, hB2, hX⟩
          case round =>
            obtain ⟨y, hy, rfl, hB3, hO⟩ := hrel
            rename World => w3
            by_cases hym : y < m
            · have y1 : (y : Int) < (m : Int) := by omega
              have y0 : (0 : Int) ≤ (y : Int) := by omega
              have hBt := hB.out.trans (hB3.out.mono hBs)
              have hcb1 := (hBt.cell (World.block_lt_of_cell? w _ hcb.out)).trans hcb.out
              obtain ⟨bb3, offb3, rfl, hcb3⟩ := e4.out y hym
              change _ = some (Value.int .i64 (gM b i y)) at hcb3
              replace hcb3 := (hBt.cell (World.block_lt_of_cell? w _ hcb3)).trans hcb3
              obtain ⟨hxc, hxf⟩ := hO.out.num (k := y) (by rw [rowT_len]; exact hym)
              rw [rowT_get a b hym, if_neg (Nat.lt_irrefl y)] at hxc
              have hst1 := hstep.out y hym
              have ⟨s1, s2⟩ : 0 ≤ prS a b k y i ∧ prS a b k y i < 65521 := ⟨Int.emod_nonneg _ (by decide), Int.emod_lt_of_pos _ (by decide)⟩
              have ⟨n3, n4⟩ := nbi.out y
              have ⟨m1, m2⟩ := mul_bd n1 n2 n3 n4
              generalize prS a b k y i = S at *
              generalize gM b i y = z at *
              have hput := (hO.out.below ((Below.refl w3.heap.size w3).drew)).put y ((S + x * z) % 65521)
              rw [hst1] at hput
              replace hput := Lib.hid hput
              have hB4 := Lib.hid ((hB3.out.drew).setCell (p := ⟨wr.heap.size, y, none⟩) (Nat.le_refl _) (.int .i64 ((S + x * z) % 65521)))
              have w3' : IntKind.i64.wrap (x * z) = x * z := IntWalk.i64_in _ ⟨by omega, by omega⟩
              have w4 : IntKind.i64.wrap (S + x * z) = S + x * z := IntWalk.i64_in _ ⟨by omega, by omega⟩
              have w5 : (S + x * z).tmod 65521 = (S + x * z) % 65521 := Int.tmod_eq_emod_of_nonneg (by omega)
              clear hO hB3 hst1 hBt
              go_wp2
              go_still_tail 18, (by kernel_rfl)
              change wpList _ _ _ _ _ w3.drew
              replace hxc : w3.drew.cell? _ = _ := hxc
              replace hxf : w3.drew.frozen? _ = _ := hxf
              clear hcb1 hcb3
              generalize w3.drew = wd at hxc hxf hput hB4 ⊢
              go_wp2
              go_roundw
              case rel => exact ⟨y + 1, by omega, by go_num, hB4, hput⟩
              case measure => simp [intOf]; omega
            · obtain rfl : y = m := by omega
              go_wp2
              go_roundw
              case rel => exact ⟨i + 1, by omega, by go_num, hB3, Lib.hid (by rw [← rowT_next]; exact hO.out)⟩
              case measure => simp [intOf]; omega
        · obtain rfl : i = l := by omega
          have hend := rowT_end (b := b) ha'.out hlt m
          rw [hend] at hX
          have hX' := Lib.hid hX.out
          have htk := Lib.hid (mat_take (prodE a b) (n := n) (m := m) (k := k) hlt)
          have hw3 : Hid ((w2.alloc (.cells #[.slice (some ⟨wr.heap.size, 0, none⟩) m m] 23)).ownsRow w.heap.size 23 1 (.slice A1 k c1) k vs) := Lib.hid (by
            have := (hMv.out.kept (Below.then_ hB2.out ((Below.refl w2.heap.size w2).alloc (Nat.le_refl _) (.cells #[.slice (some ⟨wr.heap.size, 0, none⟩) m m] 23)))).outer
            rwa [hkl.out] at this)
          have hz2 := hB2.out.size
          clear hX hend hmk
          generalize (mat (prodE a b) n m).take k = P at *
          generalize (List.range m).map (prodE a b k) = R at *
          go_wp2_with (at_builtin; (refine wpList_append_own_at _ rfl _ _ 22 rfl w.heap.size 23 iR _ 1 24 Tryd.underlying22 hiR hR0 hR1 hR2 rfl (by omega) (.slice A1 k c1) k vs rfl hw3.out ⟨w2.heap.size, 0, none⟩ 1 1 [.slice (some ⟨wr.heap.size, 0, none⟩) m m] rfl rfl (cell_one_new w2 _ _) (by simp [Value.oneCell']) (by unfold maxLen; omega) (by omega) (by simp; omega) ?_); intro v' w1 hown1 hgrow _ _)
          obtain ⟨g1, g2⟩ := snoc_round hB.out hMv.out hB2.out hX'.out (by rw [hkl.out]) hown1 hgrow
          rw [htk.out] at g2
          replace g1 := Lib.hid g1
          replace g2 := Lib.hid g2
          clear hown1 hgrow
          go_wp2
          go_roundw
          case rel => exact ⟨k + 1, by omega, by go_num, g1, g2⟩
          case measure => simp [intOf]; omega
    · obtain rfl : k = n := by omega
      obtain ⟨vs, hMv⟩ := hM.out
      rw [List.take_of_length_le (by rw [mat_len]; exact Nat.le_refl _), ← hP.out] at hMv
      replace hMv := Lib.hid hMv
      clear hM
      go_wp2
      go_ret
      first | exact ⟨⟨_, rfl, hMv.out.m⟩, hB.out⟩ | exact ⟨hMv.out.m, hB.out⟩
end Go.Proofs.YtfljkcmijnhgkaaDoor

namespace Go.Proofs.YtfljkcmijnhgkaaDoor
open Go.RowKit Go.Shelf
set_option linter.unusedSimpArgs false

theorem id_row {n k : Nat} (_hk : k < n) : (List.replicate n (0 : Int)).set k 1 = (List.range n).map (fun j => if k = j then 1 else 0) := by
  apply List.ext_getElem (by simp)
  intro y h1 h2
  rw [List.getElem_set]
  simp
theorem idM_take {n k : Nat} (hk : k < n) : (idM n).take k ++ [(List.replicate n (0 : Int)).set k 1] = (idM n).take (k + 1) := by
  rw [id_row hk]; exact mat_take (fun i k => if i = k then 1 else 0) hk
set_option maxRecDepth 100000 in
set_option maxHeartbeats 1600000 in
theorem one_any (n : Nat) (w : World) (hn : n ≤ 1000) :
    Calls Tryd.prog 78 #[.int .i64 n] w fun e w' => (∃ v, e = .returned v ∧ OwnM w' w.heap.size v (idM n)) ∧ Below w.heap.size w w' := by
  obtain ⟨iR, hiR, hR0, hR1, hR2⟩ := info_parts infoR
  have hmk := run_make_row' (P := Tryd.prog) 23 3 _ _ Tryd.underlying23 infoI rfl .i64 .i64 n (by omega) (by omega)
  go_enter Tryd.func78, Tryd.ntmps78
  go_wp2
  go_loopw [3, 4, 5, 7] (fun o _ _ ii wr => ∃ k : Nat, k ≤ n ∧ ii = .int .i64 k ∧ Hid (Below w.heap.size w wr) ∧ Hid (∃ vs, OwnMv wr w.heap.size o ((idM n).take k) vs)) (fun _ _ _ ii _ => n - (intOf ii).toNat)
  case atStart => exact ⟨0, Nat.zero_le _, rfl, Lib.hid (Below.refl _ _), Lib.hid ⟨[], by rw [List.take_zero]; exact OwnMv_nil _ _⟩⟩
  case round =>
    obtain ⟨k, hk, rfl, hB, hM⟩ := hrel
    rename World => wr
    by_cases hlt : k < n
    · have k1 : (k : Int) < (n : Int) := by omega
      have k0 : (0 : Int) ≤ (k : Int) := by omega
      have hkl : ((idM n).take k).length = k := by rw [List.length_take, idM, mat_len]; omega
      obtain ⟨vs, hMv⟩ := hM.out
      obtain ⟨A1, c1, rfl⟩ := own_shape hMv.outer
      rw [hkl] at hMv ⊢
      have hBs := hB.out.size
      replace hMv := Lib.hid hMv
      replace hkl := Lib.hid hkl
      have h0 := OwnI_made wr wr.heap.size n (Nat.le_refl _) (by unfold maxLen; omega)
      have hB0 : Below wr.heap.size wr (wr.alloc (.cells (madeCells #[.int .i64 0] n) 3)) := (Below.refl _ _).alloc (Nat.le_refl _) _
      obtain ⟨hxc, hxf⟩ := h0.num (k := k) (by simp; exact hlt)
      have hput := Lib.hid (h0.put k 1)
      have hB1 := Lib.hid (hB0.setCell (p := ⟨wr.heap.size, k, none⟩) (Nat.le_refl _) (.int .i64 1))
      have htk := Lib.hid (idM_take hlt)
      clear h0 hB0 hM
      go_upto_region 7 with fail
      rw [World.setCell_alloc_new] at hput hB1
      generalize wr.alloc (.cells ((madeCells #[.int .i64 0] n).setIfInBounds k (.int .i64 1)) 3) = w2 at hput hB1 ⊢
      have hw3 : Hid ((w2.alloc (.cells #[.slice (some ⟨wr.heap.size, 0, none⟩) n n] 23)).ownsRow w.heap.size 23 1 (.slice A1 k c1) k vs) := Lib.hid (by
        have := (hMv.out.kept (Below.then_ hB1.out ((Below.refl w2.heap.size w2).alloc (Nat.le_refl _) (.cells #[.slice (some ⟨wr.heap.size, 0, none⟩) n n] 23)))).outer
        rwa [hkl.out] at this)
      have hz2 := hB1.out.size
      clear hxc hxf hmk
      go_wp2_with (at_builtin; (refine wpList_append_own_at _ rfl _ _ 22 rfl w.heap.size 23 iR _ 1 24 Tryd.underlying22 hiR hR0 hR1 hR2 rfl (by omega) (.slice A1 k c1) k vs rfl hw3.out ⟨w2.heap.size, 0, none⟩ 1 1 [.slice (some ⟨wr.heap.size, 0, none⟩) n n] rfl rfl (cell_one_new w2 _ _) (by simp [Value.oneCell']) (by unfold maxLen; omega) (by omega) (by simp; omega) ?_); intro v' w1 hown1 hgrow _ _)
      obtain ⟨g1, g2⟩ := snoc_round hB.out hMv.out hB1.out hput.out (by rw [hkl.out]) hown1 hgrow
      rw [htk.out] at g2
      replace g1 := Lib.hid g1
      replace g2 := Lib.hid g2
      clear hown1 hgrow
      go_wp2
      go_roundw
      case rel => exact ⟨k + 1, by omega, by go_num, g1, g2⟩
      case measure => simp [intOf]; omega
    · obtain rfl : k = n := by omega
      obtain ⟨vs, hMv⟩ := hM.out
      rw [List.take_of_length_le (by rw [idM, mat_len]; exact Nat.le_refl _)] at hMv
      replace hMv := Lib.hid hMv
      clear hM
      go_wp2
      go_ret
      first | exact ⟨⟨_, rfl, hMv.out.m⟩, hB.out⟩ | exact ⟨hMv.out.m, hB.out⟩
/-! ### shaped -/
set_option maxHeartbeats 400000 in
theorem shaped_1 (xs : List Int) (m : Nat) (p : Addr) (u : Value) (w : World) (hu : RdI w u xs) (hx : okL xs m) (hp : w.cell? p = some (.int .i64 m)) :
    Calls Tryd.prog 106 (#[u] ++ #[.pointer (some p)]) w fun e w' => e = .returned (.bool false) ∧ Below w.heap.size w w' := by
  have hc := Lib.hid (residues_any xs u w hu)
  have hr : isRes xs = true := by
    rw [isRes, List.all_eq_true]; intro x hxm; have := hx.2 x hxm; simp [isN]; omega
  rw [hr] at hc
  obtain ⟨A, c1, rfl, h1, h2⟩ := hu.cell_
  rw [hx.1] at *
  clear hu hr hx
  go_enter Tryd.func106, Tryd.ntmps106
  go_wp2_with fail
  refine hc.out.mono ?_; rintro e W ⟨rfl, hB⟩
  go_wp2
  go_ret
  exact ⟨rfl, hB⟩
set_option maxHeartbeats 800000 in
theorem shaped_any (rs : List (List Int)) (n m : Nat) (v : Value) (w : World) (h : RdM w v rs) (hok : okM rs n m) :
    Calls Tryd.prog 31 #[v, .int .i64 n, .int .i64 m] w fun e w' => e = .returned (.bool true) ∧ Below w.heap.size w w' := by
  have hb0 : Below w.heap.size w (w.alloc (.cells #[.int .i64 m] 3)) := (Below.refl _ _).alloc (Nat.le_refl _) _
  obtain ⟨A, c, rfl, h1, h2, -⟩ := h.open_
  obtain ⟨vs, hv, hvl, hvr⟩ := h
  have c1 := ContainsFunc_row vs (fun j => false) _ 106 #[.pointer (some ⟨w.heap.size, 0, none⟩)] (enters_of Tryd.func106 (by kernel_rfl) rfl) (w.alloc (.cells #[.int .i64 m] 3)) (hv.below hb0 (Nat.le_refl _)) (fun W j u hB hu => by
    have hj : j < rs.length := by have := (List.getElem?_eq_some_iff.1 hu).1; omega
    refine (shaped_1 (rs.getD j []) m ⟨w.heap.size, 0, none⟩ u W ((row_of hvl hvr hu).below (hb0.trans (hB.mono hb0.size)) (Nat.le_refl _)) ⟨hok.row (by rw [← hok.len]; exact hj), hok.mem (by rw [← hok.len]; exact hj)⟩
      ((hB.cell (p := ⟨w.heap.size, 0, none⟩) (by simp)).trans (cell_new _ _ _))).mono fun e w' ⟨he, hb⟩ => ⟨he, hB.trans (hb.mono hB.size)⟩)
  rw [show ((List.range vs.length).any fun _ => false) = false by simp] at c1
  rw [hok.len] at *
  replace c1 := Lib.hid c1
  clear hv hvl hvr hok
  go_enter Tryd.func31, Tryd.ntmps31
  go_wp2_with fail
  refine c1.out.mono ?_; rintro e W ⟨rfl, hW⟩
  go_wp2
  go_ret
  exact ⟨rfl, hb0.trans (hW.mono hb0.size)⟩
/-! ### Fill -/
theorem RdB.mono {w : World} {g g' n : Nat} {v : Value} (h : RdB w g v n) (hg : g ≤ g') : RdB w g' v n := by
  obtain ⟨A, c, rfl, n1, n2, hbb⟩ := h
  refine ⟨A, c, rfl, n1, n2, fun hp => ?_⟩
  obtain ⟨b, off, e, hne, h⟩ := hbb hp
  exact ⟨b, off, e, by omega, h⟩
theorem RdB.below {w w' : World} {g n B : Nat} {v : Value} (h : RdB w g v n) (hb : Below B w w') (hg : g ≤ B) : RdB w' g v n := by
  obtain ⟨A, c, rfl, n1, n2, hbb⟩ := h
  refine ⟨A, c, rfl, n1, n2, fun hp => ?_⟩
  obtain ⟨b, off, e, hne, h⟩ := hbb hp
  exact ⟨b, off, e, hne, fun j hj => by
    obtain ⟨x, hx, hc⟩ := h j hj
    exact ⟨x, hx, (hb.cell (p := ⟨b, off + j, none⟩) (by show b < B; omega)).trans hc⟩⟩
theorem RdB.btw {w w' : World} {g n lo hi : Nat} {v : Value} (h : RdB w g v n) (hb : Btw lo hi w w') (hg : g ≤ lo) : RdB w' g v n := by
  obtain ⟨A, c, rfl, n1, n2, hbb⟩ := h
  refine ⟨A, c, rfl, n1, n2, fun hp => ?_⟩
  obtain ⟨b, off, e, hne, h⟩ := hbb hp
  exact ⟨b, off, e, hne, fun j hj => by
    obtain ⟨x, hx, hc⟩ := h j hj
    exact ⟨x, hx, (World.cell?_of_block (a := ⟨b, off + j, none⟩) (hb.block b (World.block_lt_of_cell? w _ hc) (by omega))).trans hc⟩⟩
set_option maxHeartbeats 800000 in
theorem Fill_any (n : Nat) (v : Value) (w : World) (h : RdB w w.heap.size v n) :
    Calls Tryd.prog 26 #[v] w fun e w' => e = .returned (.pointer (some ⟨w.heap.size, 0, none⟩)) ∧ SackAt w' w.heap.size 0 ∧ Below w.heap.size w w' := by
  have hR := Lib.hid h
  obtain ⟨A, c, rfl, n1, n2, -⟩ := h
  go_enter Tryd.func26, Tryd.ntmps26
  go_wp2
  go_ret
  refine ⟨rfl, ⟨_, n, 0, _, heap_alloc_new _ _, hR.out.below ((Below.refl _ _).alloc (Nat.le_refl _) _) (Nat.le_refl _), Nat.le_refl _, ?_⟩, (Below.refl _ _).alloc (Nat.le_refl _) _⟩
  omega
/-! ### product -/
/-- A number of the product, so many terms taken. -/
def pvS (a : List (List Int)) (x : List Int) (i j : Nat) : Int := psum (fun k => gM a i k * x.getD k 0 % 65521) j % 65521
/-- A matrix times a list. -/
def pvL (a : List (List Int)) (x : List Int) (n m : Nat) : List Int := (List.range n).map fun i => pvS a x i m
theorem pvS_step (a : List (List Int)) (x : List Int) (i j : Nat) : pvS a x i (j + 1) = (pvS a x i j + gM a i j * x.getD j 0) % 65521 := by
  unfold pvS
  rw [psum]
  generalize psum _ j = S
  generalize gM a i j * x.getD j 0 = t
  omega
theorem pvL_len (a : List (List Int)) (x : List Int) (n m : Nat) : (pvL a x n m).length = n := by simp [pvL]
theorem pvL_take (a : List (List Int)) (x : List Int) {n m k : Nat} (hk : k < n) : (pvL a x n m).take k ++ [pvS a x k m] = (pvL a x n m).take (k + 1) := by
  rw [List.take_succ_eq_append_getElem (by rw [pvL_len]; exact hk)]
  simp [pvL]
set_option maxRecDepth 100000 in
set_option maxHeartbeats 1600000 in
theorem pprod_any (a : List (List Int)) (x : List Int) (n m : Nat) (va vx : Value) (w : World) (ha : okM a n m) (hx : okL x m) (hn : n ≤ 1000) (hm : m ≤ 1000) (ra : RdM w va a) (rx : RdI w vx x) :
    Calls Tryd.prog 77 #[va, vx] w fun e w' => (∃ v, e = .returned v ∧ OwnI w' w.heap.size v (pvL a x n m)) ∧ Below w.heap.size w w' := by
  obtain ⟨iI, hiI, hI0, hI1, hI2⟩ := info_parts infoI
  obtain ⟨A, c, rfl, h1, h2, h3⟩ := ra.open_
  obtain ⟨B, d, rfl, g1, g2, g3⟩ := rx.open_
  rw [ha.1] at *
  rw [hx.1] at *
  have na := Lib.hid ha.num
  have nx : Hid (∀ k, 0 ≤ x.getD k 0 ∧ x.getD k 0 < 65521) := Lib.hid (fun k => by
    by_cases hk : k < x.length
    · rw [List.getD_eq_getElem?_getD, List.getElem?_eq_getElem hk]; exact hx.2 _ (List.getElem_mem hk)
    · rw [List.getD_eq_getElem?_getD, List.getElem?_eq_none (by omega)]; decide)
  have rowa := Lib.hid (fun j (hj : j < n) => ha.row hj)
  have hst := Lib.hid (pvS_step a x)
  have htk := Lib.hid (fun k (hk : k < n) => pvL_take a x (m := m) hk)
  replace h3 := Lib.hid h3
  replace g3 := Lib.hid g3
  clear ra rx ha hx
  go_enter Tryd.func77, Tryd.ntmps77
  go_wp2
  go_loopw [5, 7, 8, 9, 10, 13, 19] (fun o _ _ _ _ ii _ wr => ∃ k : Nat, k ≤ n ∧ ii = .int .i64 k ∧ Hid (Below w.heap.size w wr) ∧ Hid (OwnI wr w.heap.size o ((pvL a x n m).take k))) (fun _ _ _ _ _ ii _ _ => n - (intOf ii).toNat)
  case atStart => exact ⟨0, Nat.zero_le _, rfl, Lib.hid (Below.refl _ _), Lib.hid (by rw [List.take_zero]; exact OwnI_nil _ _)⟩
  case round =>
    obtain ⟨k, hk, rfl, hB, hO⟩ := hrel
    rename World => wr
    by_cases hlt : k < n
    · have k1 : (k : Int) < (n : Int) := by omega
      have k0 : (0 : Int) ≤ (k : Int) := by omega
      have hkl : ((pvL a x n m).take k).length = k := by rw [List.length_take, pvL_len]; omega
      obtain ⟨A1, c1, rfl⟩ := own_shape hO.out
      rw [hkl] at hO ⊢
      have hBs := hB.out.size
      replace hkl := Lib.hid hkl
      obtain ⟨ba, offa, ua, rfl, hca, hua⟩ := h3.out k hlt
      obtain ⟨Aa, ca, rfl, -, -, e3⟩ := hua.open_
      rw [rowa.out k hlt] at e3 hca
      replace e3 := Lib.hid e3
      replace hca := (hB.out.cell (World.block_lt_of_cell? w _ hca)).trans hca
      clear hua
      go_wp2
      clear hca
      go_loopw [8, 9, 10, 19] (fun s _ _ jj w2 => ∃ i : Nat, i ≤ m ∧ jj = .int .i64 i ∧ s = .int .i64 (pvS a x k i) ∧ Hid (Below w.heap.size w w2) ∧ Hid (OwnI w2 w.heap.size (.slice A1 k c1) ((pvL a x n m).take k))) (fun _ _ _ jj _ => m - (intOf jj).toNat)
      case atStart => exact ⟨0, Nat.zero_le _, rfl, rfl, hB, hO⟩
      case round =>
        obtain ⟨i, hi, rfl, rfl, hB2, hO2⟩ := hrel
        rename World => w2
        have ⟨s1, s2⟩ : 0 ≤ pvS a x k i ∧ pvS a x k i < 65521 := ⟨Int.emod_nonneg _ (by decide), Int.emod_lt_of_pos _ (by decide)⟩
        by_cases him : i < m
        · have j1 : (i : Int) < (m : Int) := by omega
          have j0 : (0 : Int) ≤ (i : Int) := by omega
          obtain ⟨ba2, offa2, rfl, hca2⟩ := e3.out i him
          change _ = some (Value.int .i64 (gM a k i)) at hca2
          obtain ⟨bb2, offb2, rfl, hcb2⟩ := g3.out i him
          replace hca2 := (hB2.out.cell (World.block_lt_of_cell? w _ hca2)).trans hca2
          replace hcb2 := (hB2.out.cell (World.block_lt_of_cell? w _ hcb2)).trans hcb2
          have ⟨n1, n2⟩ := na.out k i
          have ⟨n3, n4⟩ := nx.out i
          have ⟨m1, m2⟩ := mul_bd n1 n2 n3 n4
          have hst1 := Lib.hid (hst.out k i)
          generalize pvS a x k i = S at *
          generalize gM a k i = y at *
          generalize x.getD i 0 = z at *
          go_wp2
          go_roundw
          case rel => exact ⟨i + 1, by omega, by go_num, by rw [hst1.out], hB2, hO2⟩
          case measure => simp [intOf]; omega
        · obtain rfl : i = m := by omega
          have ht := Lib.hid (htk.out k hlt)
          generalize pvS a x k i = S at *
          have how : Hid ((w2.alloc (.cells #[.int .i64 S] 3)).ownsRow w.heap.size 3 1 (.slice A1 k c1) k (ints ((pvL a x n i).take k))) := Lib.hid (by
            have := hO2.out.below ((Below.refl w2.heap.size w2).alloc (Nat.le_refl _) (.cells #[.int .i64 S] 3))
            unfold OwnI at this
            rwa [hkl.out] at this)
          have hz2 := hB2.out.size
          generalize (pvL a x n i).take k = P at *
          go_wp2_with (at_builtin; (refine wpList_append_own_at _ rfl _ _ 23 rfl w.heap.size 3 iI _ 1 8 Tryd.underlying23 hiI hI0 hI1 hI2 rfl (by omega) (.slice A1 k c1) k (ints P) rfl how.out ⟨w2.heap.size, 0, none⟩ 1 1 [.int .i64 S] rfl rfl (cell_one_new w2 _ _) (by simp [Value.oneCell']) (by unfold maxLen; omega) (by omega) (by simp; omega) ?_); intro v' w1 hown1 hgrow _ _)
          have hfin := own_snoc hkl.out hown1
          rw [ht.out] at hfin
          have hB1 := Lib.hid ((hB2.out.alloc (by omega) (.cells #[.int .i64 S] 3)).grown hgrow (by simp; omega) (fun q hq => (how.out.lt q hq).1))
          replace hfin := Lib.hid hfin
          clear hown1 hgrow
          go_wp2
          go_roundw
          case rel => exact ⟨k + 1, by omega, by go_num, hB1, hfin⟩
          case measure => simp [intOf]; omega
    · obtain rfl : k = n := by omega
      rw [List.take_of_length_le (by rw [pvL_len]; exact Nat.le_refl _)] at hO
      go_wp2
      go_ret
      first | exact ⟨⟨_, rfl, hO.out⟩, hB.out⟩ | exact ⟨hO.out, hB.out⟩
end Go.Proofs.YtfljkcmijnhgkaaDoor
