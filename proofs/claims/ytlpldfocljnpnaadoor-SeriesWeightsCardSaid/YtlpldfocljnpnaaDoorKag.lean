/- Layer 17 Layer 17 Layer 17 Layer 17 Layer 17 -/
import Derived.Test.YtlpldfocljnpnaaDoorKaf
import Derived.Test.YtlpldfocljnpnaaDoorKab
import Derived.Deep.Cut
import Derived.Deep.CutBlock
import Derived.Test.YtlpldfocljnpnaaDoorKad
import Derived.Test.YtlpldfocljnpnaaDoorKae
set_option maxRecDepth 100000
set_option maxHeartbeats 6400000
set_option linter.unusedSimpArgs false
namespace Go.Proofs.YtlpldfocljnpnaaDoor
open Go.RowKit Go.Shelf
structure SplitSt (base : Nat) (wx : World) (l b : Value) (L B : List Int) : Prop where
 left : OwnI wx base l L
 by_ : OwnI wx base b B
 ne : l.ownBlock = none ∨ l.ownBlock ≠ b.ownBlock
theorem SplitSt.below {base : Nat} {w w' : World} {l b : Value} {L B : List Int} (h : SplitSt base w l b L B) (hb : Below w.heap.size w w') : SplitSt base w' l b L B := ⟨h.left.below hb, h.by_.below hb, h.ne⟩
theorem SplitSt.put {base : Nat} {w : World} {l : Value} {g n c : Nat} {L B : List Int} (h : SplitSt base w l (.slice (some ⟨g, 0, none⟩) n c) L B) (k : Nat) (x : Int) : SplitSt base (w.setCell ⟨g, k, none⟩ (.int .i64 x)) l (.slice (some ⟨g, 0, none⟩) n c) L (B.set k x) :=
 ⟨own_of_block h.left fun q hq => Below.heap_setCell _ _ _ _ (fun e => by
  rcases h.ne with h1 | h1
  ·rw [h1] at hq; cases hq
  ·exact h1 (by rw [hq]; show some q = some g; rw [show q = g from e])), h.by_.put k x, h.ne⟩
theorem box2n (w : World) (a b : Value) (T : TypeId) : Below w.heap.size w (w.alloc (.cells #[a, b] T)) ∧ (w.alloc (.cells #[a, b] T)).cell? ⟨w.heap.size, 0, none⟩ = some a ∧ (w.alloc (.cells #[a, b] T)).cell? ⟨w.heap.size, 1, none⟩ = some b :=
 ⟨(Below.refl _ _).alloc (Nat.le_refl _) _, by simp only [World.cell?, heap_alloc_new]; rfl, by simp only [World.cell?, heap_alloc_new]; rfl⟩
theorem cells3 {W : World} {g : Nat} {a b c : Value} {T : TypeId} {fr : Nat × Nat} (h : W.heap[g]? = some (.cells #[a, b, c] T fr)) : W.cell? ⟨g, 0, none⟩ = some a ∧ W.cell? ⟨g, 1, none⟩ = some b ∧ W.cell? ⟨g, 2, none⟩ = some c := by
 unfold World.cell?; rw [h]; exact ⟨rfl, rfl, rfl⟩
theorem rd_two (w : World) (x y : Int) : RdI (w.alloc (.cells #[.int .i64 x, .int .i64 y] 3)) (.slice (some ⟨w.heap.size, 0, none⟩) 2 2) [x, y] := by
 obtain ⟨-, h0, h1⟩ := box2n w (.int .i64 x) (.int .i64 y) 3
 refine ⟨_, 2, rfl, by simp [ints], by simp [ints], fun _ => ⟨_, 0, rfl, fun j u hj => ?_⟩⟩
 match j, hj with
 | 0, hj => cases hj; exact h0
 | 1, hj => cases hj; exact h1
theorem rdM_two {w : World} {u v : Value} {a b : List Int} (ha : RdI w u a) (hb : RdI w v b) : RdM (w.alloc (.cells #[u, v] 22)) (.slice (some ⟨w.heap.size, 0, none⟩) 2 2) [a, b] := by
 obtain ⟨hB, h0, h1⟩ := box2n w u v 22
 refine ⟨[u, v], ⟨_, 2, rfl, by simp, by simp, fun _ => ⟨_, 0, rfl, fun j x hj => ?_⟩⟩, rfl, fun j r x hr hx => ?_⟩
 ·match j, hj with
  | 0, hj => cases hj; exact h0
  | 1, hj => cases hj; exact h1
 ·match j, hr, hx with
  | 0, hr, hx => cases hr; cases hx; exact ha.below hB (Nat.le_refl _)
  | 1, hr, hx => cases hr; cases hx; exact hb.below hB (Nat.le_refl _)
theorem split_any (s : SpL) (N : Nat) (hs : SpShape s N) (hN : N ≤ 1000) (p : Nat) (row : List Int) (vr : Value) (w : World) (hS : SpanR w p s) (rr : RdI w vr row) (hr : row.length = N) (hb : ∀ u ∈ row, 0 ≤ u ∧ u < 65521) :
  Calls Tryd.prog 106 #[.pointer (some ⟨p, 0, none⟩), vr] w fun e w' => (∃ v1 v2, e = .returned (.tuple #[v1, v2]) ∧ OwnI w' w.heap.size v1 (splitL s row (List.replicate s.length 0)).1 ∧ OwnI w' w.heap.size v2 (splitL s row (List.replicate s.length 0)).2) ∧ Below w.heap.size w w' := by
 obtain ⟨L, R, M, hbox, ⟨A, c, rfl, hlead⟩, hR, hM⟩ := hS.ex
 have hcl := Lib.hid (fun W (hW : Below w.heap.size w W) => (Clone_any row vr W (rr.below hW (Nat.le_refl _)) (by omega)).mono (R' := fun e w' => (∃ v, e = .returned v ∧ OwnI w' w.heap.size v row ∧ ∀ k, v.ownBlock = some k → W.heap.size ≤ k ∧ k < w'.heap.size) ∧ Below W.heap.size W w') (fun e w' ⟨⟨v, h1, h2⟩, h3⟩ => ⟨⟨v, h1, h2.base hW.size, fun k hk => h2.lt k hk⟩, h3⟩))
 have hsl := hs.len
 have hmk := run_make_row' (P := Tryd.prog) 22 3 _ _ Tryd.underlying22 infoI rfl .i64 .i64 s.length (by omega) (by omega)
 have hzr := Lib.hid (fun W (hW : Below w.heap.size w W) => OwnI_made W w.heap.size s.length hW.size (by unfold maxLen; omega))
 have hT : Hid (Below w.heap.size w w) := Lib.hid (Below.refl _ _)
 have hend := Lib.hid (show splitL (s.take s.length) row (List.replicate s.length 0) = splitL s row (List.replicate s.length 0) by rw [List.take_length])
 have hln := Lib.hid (fun q => splitL_lens (s.take q) row (List.replicate s.length 0))
 have hbd := Lib.hid (fun q => splitL_bd (s.take q) row (List.replicate s.length 0) hb (fun u hu => by rw [List.eq_of_mem_replicate hu]; decide))
 have htk := Lib.hid (fun q (hq : q < s.length) => splitL_take s row (List.replicate s.length 0) hq)
 have hsh := Lib.hid (fun q (hq : q < s.length) => hs.rows _ (getD_mem s (0, [], []) hq))
 have hRo := Lib.hid hR.open_
 have hMo := Lib.hid hM.open_
 have h00 := Lib.hid (show splitL (s.take 0) row (List.replicate s.length 0) = (row, List.replicate s.length 0) from rfl)
 have hgR := Lib.hid (fun q (hq : q < s.length) => getD_map' (fun q : Nat × List Int × List Int => q.2.1) s [] (0, [], []) hq)
 have hgM := Lib.hid (fun q (hq : q < s.length) => getD_map' (fun q : Nat × List Int × List Int => q.2.2) s [] (0, [], []) hq)
 have hzz : Hid ((List.replicate s.length (0 : Int)).length = s.length) := Lib.hid (by simp)
 generalize hzs : List.replicate s.length (0 : Int) = zs at *
 replace hzs := Lib.hid hzs
 replace hlead := Lib.hid hlead
 have hrl := Lib.hid hr
 have hRl : (s.map fun q => q.2.1).length = s.length := by simp
 have hMl : (s.map fun q => q.2.2).length = s.length := by simp
 replace hRl := Lib.hid hRl
 replace hMl := Lib.hid hMl
 clear hS hR hM rr hr hb hs
 generalize hD : s.length = D at *
 replace hD := Lib.hid hD
 go_enter Tryd.func106, Tryd.ntmps106
 go_upto_region 1 with fail
 go_cut [4, 5] (fun l b wx => Hid (Below w.heap.size w wx) ∧ Hid (SplitSt w.heap.size wx l b row zs))
 case first =>
  refine D_begin (fun w' => w'.heap[p]? = some (.cells #[.slice A D c, R, M] 100 (0, 0))) (fun _ => True) 9 (by kernel_rfl) ?_
  change wpAnyD _ _ _ _ _ _ _ _ _ _ w.drew
  simp only [List.size_toArray, List.length_cons, List.length_nil, Nat.reduceAdd, Array.replicate_succ, Array.replicate_zero, List.push_toArray, List.append_toArray, List.nil_append, List.cons_append]
  have hD2 : Below w.heap.size w w.drew := (Below.refl _ _).drew
  replace hT := Lib.hid (Below.then_ hT.out hD2)
  replace hbox := heap_keep hbox hD2
  have z_D2 := hD2.size; clear hD2
  generalize w.drew = D2 at *
  refine Dt 0 rfl ?_ hbox (fun _ => trivial) ?_ ?_
  rotate_left; · intro w1 hw1; obtain ⟨q0, q1, q2⟩ := cells3 hw1; go_simp; try with_reducible rfl
  try simp only [Act.put, s_1, s_2, s_3, s_4, s_5, s_6]
  refine Dt 2 rfl ?_ hbox (fun _ => trivial) ?_ ?_
  rotate_left; · intro w1 hw1; obtain ⟨q0, q1, q2⟩ := cells3 hw1; go_simp; try with_reducible rfl
  try simp only [Act.put, s_1, s_2, s_3, s_4, s_5, s_6]
  refine Dt 3 rfl ?_ hbox (fun _ => trivial) ?_ ?_
  rotate_left; · intro w1 hw1; obtain ⟨q0, q1, q2⟩ := cells3 hw1; go_simp; try with_reducible rfl
  try simp only [Act.put, s_1, s_2, s_3, s_4, s_5, s_6]
  refine Dt 4 rfl ?_ hbox (fun _ => trivial) ?_ ?_
  rotate_left; · intro w1 hw1; obtain ⟨q0, q1, q2⟩ := cells3 hw1; go_simp; try with_reducible rfl
  try simp only [Act.put, s_1, s_2, s_3, s_4, s_5, s_6]
  refine Dt 5 rfl ?_ hbox (fun _ => trivial) ?_ ?_
  rotate_left; · intro w1 hw1; obtain ⟨q0, q1, q2⟩ := cells3 hw1; go_simp; try with_reducible rfl
  try simp only [Act.put, s_1, s_2, s_3, s_4, s_5, s_6]
  refine Dt 6 rfl ?_ hbox (fun _ => trivial) ?_ ?_
  rotate_left; · intro w1 hw1; obtain ⟨q0, q1, q2⟩ := cells3 hw1; go_simp; try with_reducible rfl
  try simp only [Act.put, s_1, s_2, s_3, s_4, s_5, s_6]
  refine D_two (i := 1) (j := 7) (by kernel_rfl) rfl rfl ?_ ?_
  ·skip
   intro K hK
   rw [if_pos (by rfl)]
   go_wp2_with fail
   refine (hcl.out D2 hT.out).mono ?_; rintro e D2_1 ⟨⟨v1, rfl, o1, n1⟩, hE1⟩
   replace hT := Lib.hid (Below.then_ hT.out hE1)
   replace hbox := heap_keep hbox hE1
   replace o1 := Lib.hid o1
   replace n1 := Lib.hid n1
   have z_1 := hE1.size; clear hE1
   refine hK _ _ hbox (fun _ _ => trivial) ?_
   clear hK K
   try simp only [Act.put, s_1, s_2, s_3, s_4, s_5, s_6]
   refine D_two (i := 7) (j := 8) (by kernel_rfl) rfl rfl ?_ ?_
   ·skip
    intro K hK
    rw [if_pos (by rfl)]
    have o2 := Lib.hid (hzr.out D2_1 hT.out)
    go_simp
    have hE2 : Below D2_1.heap.size D2_1 (D2_1.alloc (.cells (madeCells #[.int .i64 0] D) 3)) := (Below.refl _ _).alloc (Nat.le_refl _) _
    replace hT := Lib.hid (Below.then_ hT.out hE2)
    replace hbox := heap_keep hbox hE2
    replace o1 := Lib.hid (o1.out.below hE2)
    have z_2 : D2_1.heap.size < (D2_1.alloc (.cells (madeCells #[.int .i64 0] D) 3)).heap.size := by simp
    clear hE2
    refine hK _ _ hbox (fun _ _ => trivial) ?_
    clear hK K
    try simp only [Act.put, s_1, s_2, s_3, s_4, s_5, s_6]
    generalize (D2_1.alloc (.cells (madeCells #[.int .i64 0] D) 3)) = D2_2 at *
    refine D_one (i := 8) (by kernel_rfl) rfl ?_
    intro K hK
    rw [if_pos (by rfl)]
    go_simp
    refine hK _ _ hbox (fun _ _ => trivial) ?_
    clear hK K
    try simp only [Act.put, s_1, s_2, s_3, s_4, s_5, s_6]
    refine D_one (i := 9) (by kernel_rfl) rfl ?_
    intro K hK
    rw [if_pos (by rfl)]
    go_simp
    refine hK _ _ hbox (fun h _ => absurd rfl h) ?_
    clear hK K
    try simp only [Act.put, s_1, s_2, s_3, s_4, s_5, s_6]
    refine D_done (by kernel_rfl) ?_ _
    go_wp2_with fail
    go_meet
    exact ⟨hT, Lib.hid ⟨o1.out, o2.out, .inr fun e => by have := n1.out _ e; simp only [] at this; omega⟩⟩
   ·skip
    intro K hK
    rw [if_pos (by rfl)]
    go_simp
    refine hK _ _ hbox (fun _ _ => trivial) ?_
    clear hK K
    try simp only [Act.put, s_1, s_2, s_3, s_4, s_5, s_6]
    refine D_one (i := 7) (by kernel_rfl) rfl ?_
    intro K hK
    rw [if_pos (by rfl)]
    have o2 := Lib.hid (hzr.out D2_1 hT.out)
    go_simp
    have hE3 : Below D2_1.heap.size D2_1 (D2_1.alloc (.cells (madeCells #[.int .i64 0] D) 3)) := (Below.refl _ _).alloc (Nat.le_refl _) _
    replace hT := Lib.hid (Below.then_ hT.out hE3)
    replace hbox := heap_keep hbox hE3
    replace o1 := Lib.hid (o1.out.below hE3)
    have z_3 : D2_1.heap.size < (D2_1.alloc (.cells (madeCells #[.int .i64 0] D) 3)).heap.size := by simp
    clear hE3
    refine hK _ _ hbox (fun _ _ => trivial) ?_
    clear hK K
    try simp only [Act.put, s_1, s_2, s_3, s_4, s_5, s_6]
    generalize (D2_1.alloc (.cells (madeCells #[.int .i64 0] D) 3)) = D2_3 at *
    refine D_one (i := 9) (by kernel_rfl) rfl ?_
    intro K hK
    rw [if_pos (by rfl)]
    go_simp
    refine hK _ _ hbox (fun h _ => absurd rfl h) ?_
    clear hK K
    try simp only [Act.put, s_1, s_2, s_3, s_4, s_5, s_6]
    refine D_done (by kernel_rfl) ?_ _
    go_wp2_with fail
    go_meet
    exact ⟨hT, Lib.hid ⟨o1.out, o2.out, .inr fun e => by have := n1.out _ e; simp only [] at this; omega⟩⟩
  ·skip
   intro K hK
   rw [if_pos (by rfl)]
   have o2 := Lib.hid (hzr.out D2 hT.out)
   go_simp
   have hE4 : Below D2.heap.size D2 (D2.alloc (.cells (madeCells #[.int .i64 0] D) 3)) := (Below.refl _ _).alloc (Nat.le_refl _) _
   replace hT := Lib.hid (Below.then_ hT.out hE4)
   replace hbox := heap_keep hbox hE4
   have z_4 : D2.heap.size < (D2.alloc (.cells (madeCells #[.int .i64 0] D) 3)).heap.size := by simp
   clear hE4
   refine hK _ _ hbox (fun _ _ => trivial) ?_
   clear hK K
   try simp only [Act.put, s_1, s_2, s_3, s_4, s_5, s_6]
   generalize (D2.alloc (.cells (madeCells #[.int .i64 0] D) 3)) = D2_4 at *
   refine D_one (i := 1) (by kernel_rfl) rfl ?_
   intro K hK
   rw [if_pos (by rfl)]
   go_wp2_with fail
   refine (hcl.out D2_4 hT.out).mono ?_; rintro e D2_5 ⟨⟨v1, rfl, o1, n1⟩, hE5⟩
   replace hT := Lib.hid (Below.then_ hT.out hE5)
   replace hbox := heap_keep hbox hE5
   replace o2 := Lib.hid (o2.out.below hE5)
   replace o1 := Lib.hid o1
   replace n1 := Lib.hid n1
   have z_5 := hE5.size; clear hE5
   refine hK _ _ hbox (fun _ _ => trivial) ?_
   clear hK K
   try simp only [Act.put, s_1, s_2, s_3, s_4, s_5, s_6]
   refine D_one (i := 8) (by kernel_rfl) rfl ?_
   intro K hK
   rw [if_pos (by rfl)]
   go_simp
   refine hK _ _ hbox (fun _ _ => trivial) ?_
   clear hK K
   try simp only [Act.put, s_1, s_2, s_3, s_4, s_5, s_6]
   refine D_one (i := 9) (by kernel_rfl) rfl ?_
   intro K hK
   rw [if_pos (by rfl)]
   go_simp
   refine hK _ _ hbox (fun h _ => absurd rfl h) ?_
   clear hK K
   try simp only [Act.put, s_1, s_2, s_3, s_4, s_5, s_6]
   refine D_done (by kernel_rfl) ?_ _
   go_wp2_with fail
   go_meet
   exact ⟨hT, Lib.hid ⟨o1.out, o2.out, .inr fun e => by have := n1.out _ e; simp only [] at this; omega⟩⟩
 case rest =>
  obtain ⟨hB0, hst0⟩ := hcut
  rename World => w0
  clear hT hcl hmk hzr
  rename (∀ (a : Act) (w : World), Code.wp _ _ _ a w → _) => hK
  refine hK _ _ ?_
  clear hK
  have hbs := Lib.hid (fun W (hW : Below w.heap.size w W) => cells3 ((hW.block p (lt_of_block hbox)).trans hbox))
  obtain ⟨q0, q1, q2⟩ := hbs.out w0 hB0.out
  clear hbox
  obtain ⟨A2, c2, e2⟩ := own_form hst0.out.by_
  rw [hzz.out] at e2
  subst e2
  obtain ⟨AR, cR, eR, -, -, hRc⟩ := hRo.out
  obtain ⟨AM, cM, eM, -, -, hMc⟩ := hMo.out
  rw [hRl.out] at eR hRc
  rw [hMl.out] at eM hMc
  subst eR eM
  replace hRc := Lib.hid hRc
  replace hMc := Lib.hid hMc
  clear hRo hMo
  go_wp2
  go_loopw [4, 24] (fun l i wr => ∃ q : Nat, q ≤ D ∧ i = .int .i64 q ∧ Hid (Below w.heap.size w wr) ∧ Hid (SplitSt w.heap.size wr l (.slice A2 D c2) (splitL (s.take q) row zs).1 (splitL (s.take q) row zs).2)) (fun _ i _ => D - (intOf i).toNat)
  case atStart => exact ⟨0, Nat.zero_le _, rfl, hB0, by rw [h00.out]; exact hst0⟩
  case round =>
   obtain ⟨q, hq, rfl, hB, hst⟩ := hrel
   by_cases hlt : q < D
   ·obtain ⟨hl1, hl2⟩ := hln.out q
    rw [hrl.out] at hl1
    rw [hzz.out] at hl2
    have hbq := hbd.out q
    have hsq := hsh.out q hlt
    have hst1 := htk.out q hlt
    have hgr := hgR.out q hlt
    have hgm := hgM.out q hlt
    obtain ⟨b, rfl, hc0, hc1⟩ := hlead.out q hlt
    replace hc0 := (hB.out.cell (World.block_lt_of_cell? w _ hc0)).trans hc0
    replace hc1 := (hB.out.cell (World.block_lt_of_cell? w _ hc1)).trans hc1
    generalize s.getD q (0, [], []) = sq at *
    obtain ⟨col, red, made⟩ := sq
    generalize splitL (s.take q) row zs = x at *
    obtain ⟨Lq, Bq⟩ := x
    simp only [] at hl1 hl2 hbq hst
    obtain ⟨q0, q1, q2⟩ := hbs.out wr hB.out
    obtain ⟨hsc, hsr, hsm, hrb, hmb⟩ := hsq
    simp only [] at hsc hsr hsm hrb hmb
    obtain ⟨A1, c1, e1⟩ := own_form hst.out.left
    rw [hl1] at e1
    subst e1
    obtain ⟨g1, c1', e1, -, -⟩ := World.ownsRow.form hst.out.left (by rw [hl1]; omega)
    simp only [Value.slice.injEq] at e1
    obtain ⟨rfl, -, -⟩ := e1
    obtain ⟨hcl, -⟩ := hst.out.left.num (k := col) (by rw [hl1]; exact hsc)
    have hnb := getD_bd hbq.1 col
    obtain ⟨hbx, hbx0, hbx1⟩ := box2n wr (.int .i64 (q : Nat)) (.int .i64 (col : Nat)) 144
    have y1 : (q : Int) < (D : Int) := by omega
    have y0 : (0 : Int) ≤ (q : Int) := by omega
    have y2 : (col : Int) < (N : Int) := by omega
    have y3 : (0 : Int) ≤ (col : Int) := by omega
    replace hcl := (hbx.cell (World.block_lt_of_cell? wr _ hcl)).trans hcl
    by_cases hz : Lq.getD col 0 = 0
    ·rw [hz] at hcl
     have hst2 : stepL (col, red, made) (Lq, Bq) = (Lq, Bq) := by unfold stepL; rw [if_pos hz]
     rw [hst2] at hst1
     replace hst1 := Lib.hid hst1
     clear hst2 hz hgr hgm
     replace hl1 := Lib.hid hl1
     replace hl2 := Lib.hid hl2
     go_wp2
     go_roundw
     case rel => exact ⟨q + 1, by omega, by go_num, Lib.hid (Below.then_ hB.out hbx), by rw [hst1.out]; exact Lib.hid (hst.out.below hbx)⟩
     case measure => simp [intOf]; omega
    ·obtain ⟨bR, oR, uR, rfl, hcR, huR⟩ := hRc.out q hlt
     obtain ⟨bM, oM, uM, rfl, hcM, huM⟩ := hMc.out q hlt
     rw [hgr] at huR
     rw [hgm] at huM
     simp only [] at huR huM
     obtain ⟨Ar, cr, er, -, -⟩ := huR.cell_
     rw [hsr] at er
     subst er
     replace hcR := (hB.out.cell (World.block_lt_of_cell? w _ hcR)).trans hcR
     replace hcM := (hB.out.cell (World.block_lt_of_cell? w _ hcM)).trans hcM
     have hst2 : stepL (col, red, made) (Lq, Bq) = (plusL N [1, 65521 - Lq.getD col 0] [Lq, red], addTo Bq made (Lq.getD col 0)) := by unfold stepL; rw [if_neg hz, hl1]
     rw [hst2] at hst1
     have hnx := Lib.hid (fun k (_ : k < D) => addP_get (by_ := Bq) (m := made) (n := Lq.getD col 0) (k := k) (by omega))
     have hse := Lib.hid (fun k => addP_set (by_ := Bq) (m := made) (n := Lq.getD col 0) (k := k))
     have hae := Lib.hid (addP_end Bq made (Lq.getD col 0))
     have ha0 := Lib.hid (addP_zero Bq made (Lq.getD col 0))
     have hal := Lib.hid (addP_len Bq made (Lq.getD col 0))
     generalize Lq.getD col 0 = x at *
     have x0 : x ≠ 0 := hz
     have hX2 : Below (wr.alloc (.cells #[.int .i64 (q : Nat), .int .i64 (col : Nat)] 144)).heap.size (wr.alloc (.cells #[.int .i64 (q : Nat), .int .i64 (col : Nat)] 144)) ((wr.alloc (.cells #[.int .i64 (q : Nat), .int .i64 (col : Nat)] 144)).alloc (.cells #[.int .i64 1, .int .i64 (65521 - x)] 3)) := (Below.refl _ _).alloc (Nat.le_refl _) _
     have hX12 := Below.then_ hbx hX2
     have hX3 : Below ((wr.alloc (.cells #[.int .i64 (q : Nat), .int .i64 (col : Nat)] 144)).alloc (.cells #[.int .i64 1, .int .i64 (65521 - x)] 3)).heap.size ((wr.alloc (.cells #[.int .i64 (q : Nat), .int .i64 (col : Nat)] 144)).alloc (.cells #[.int .i64 1, .int .i64 (65521 - x)] 3)) (((wr.alloc (.cells #[.int .i64 (q : Nat), .int .i64 (col : Nat)] 144)).alloc (.cells #[.int .i64 1, .int .i64 (65521 - x)] 3)).alloc (.cells #[.slice (some ⟨g1, 0, none⟩) N c1, .slice Ar N cr] 22)) := (Below.refl _ _).alloc (Nat.le_refl _) _
     have hX := Lib.hid (Below.then_ hX12 hX3)
     have hLr := hst.out.left.rd (by rw [hl1]; omega)
     have hpl := Lib.hid (plus_any N [1, 65521 - x] [Lq, red] (.slice (some ⟨(wr.alloc (.cells #[.int .i64 (q : Nat), .int .i64 (col : Nat)] 144)).heap.size, 0, none⟩) 2 2) (.slice (some ⟨((wr.alloc (.cells #[.int .i64 (q : Nat), .int .i64 (col : Nat)] 144)).alloc (.cells #[.int .i64 1, .int .i64 (65521 - x)] 3)).heap.size, 0, none⟩) 2 2) (((wr.alloc (.cells #[.int .i64 (q : Nat), .int .i64 (col : Nat)] 144)).alloc (.cells #[.int .i64 1, .int .i64 (65521 - x)] 3)).alloc (.cells #[.slice (some ⟨g1, 0, none⟩) N c1, .slice Ar N cr] 22)) (by omega) ((rd_two (wr.alloc (.cells #[.int .i64 (q : Nat), .int .i64 (col : Nat)] 144)) 1 (65521 - x)).below hX3 (Nat.le_refl _)) (rdM_two (hLr.below hX12 (Nat.le_refl _)) (huR.below (Below.then_ hB.out hX12) (Nat.le_refl _))) (by simp) (fun r hr => by
      rcases List.mem_cons.1 hr with rfl | hr
      ·exact ⟨by omega, hbq.1⟩
      ·rw [List.mem_singleton.1 hr]; exact ⟨by omega, hrb⟩) (fun u hu => by
      rcases List.mem_cons.1 hu with rfl | hu
      ·decide
      ·rw [List.mem_singleton.1 hu]; omega))
     have w1 : IntKind.i64.wrap (65521 - x) = 65521 - x := IntWalk.i64_in _ ⟨by omega, by omega⟩
     have hsx : ((wr.alloc (.cells #[.int .i64 (q : Nat), .int .i64 (col : Nat)] 144)).alloc (.cells #[.int .i64 1, .int .i64 (65521 - x)] 3)).heap.size = wr.heap.size + 1 + 1 := by simp
     have hsx1 : (wr.alloc (.cells #[.int .i64 (q : Nat), .int .i64 (col : Nat)] 144)).heap.size = wr.heap.size + 1 := by simp
     rw [hsx, hsx1] at hpl
     have hbq2 := Lib.hid hbq.2
     have hxe : (x == 0) = false := by simpa using hz
     have q1' := (hX12.cell (World.block_lt_of_cell? wr _ q1)).trans q1
     have hcR' := (hX12.cell (World.block_lt_of_cell? wr _ hcR)).trans hcR
     clear hX2 hX12 hX3 hLr huR hst2 hbq hgr hgm hsx hsx1
     replace hl1 := Lib.hid hl1
     replace hl2 := Lib.hid hl2
     replace hst1 := Lib.hid hst1
     replace hsr := Lib.hid hsr
     go_wp2_with fail
     refine hpl.out.mono ?_; rintro e W4 ⟨⟨v, rfl, hO⟩, hb4⟩
     have hB4 := Lib.hid (Below.then_ hX.out hb4)
     obtain ⟨q0, q1, q2⟩ := hbs.out W4 (Below.then_ hB.out hB4.out)
     replace hcM := (hB4.out.cell (World.block_lt_of_cell? wr _ hcM)).trans hcM
     have hst4 : Hid (SplitSt w.heap.size W4 v (.slice A2 D c2) (plusL N [1, 65521 - x] [Lq, red]) (addP Bq made x 0)) := Lib.hid (by
      rw [ha0.out]
      refine ⟨hO.base (Nat.le_trans hB.out.size hX.out.size), hst.out.by_.below hB4.out, ?_⟩
      by_cases hv : v.ownBlock = none
      ·exact .inl hv
      ·obtain ⟨g, hg⟩ := Option.ne_none_iff_exists'.1 hv
       refine .inr fun e => ?_
       have h1 := (World.ownsRow.lt hO g hg).1
       have h2 := (World.ownsRow.lt hst.out.by_ g (by rw [← e]; exact hg)).2
       have h3 := hX.out.size
       omega)
     obtain ⟨Am, cm, rfl, -, -, hmc⟩ := huM.open_
     replace hmc := Lib.hid hmc
     have hB5 := Lib.hid (Below.then_ hB.out hB4.out)
     have hmd := Lib.hid (getD_bd hmb)
     have hbd' := Lib.hid (getD_bd (l := Bq))
     clear hpl hX hB hst hO hb4 hbx hbx0 hbx1 hcl q1' hcR' hcR hc0 hc1 huM hB4
     generalize hml : made.length = m at *
     replace hml := Lib.hid hml
     go_wp2
     clear q0 q1 q2 hcM
     obtain ⟨wo, rfl⟩ : ∃ wo : World, wo = W4 := ⟨_, rfl⟩
     go_loopw [9, 10, 59] (fun _ _ j wr => ∃ k : Nat, k ≤ m ∧ j = .int .i64 k ∧ Hid (Below w.heap.size w wr) ∧ Hid (SplitSt w.heap.size wr v (.slice A2 D c2) (plusL N [1, 65521 - x] [Lq, red]) (addP Bq made x k))) (fun _ _ j _ => m - (intOf j).toNat)
     case atStart => exact ⟨0, Nat.zero_le _, rfl, hB5, hst4⟩
     case round =>
      obtain ⟨k, hk, rfl, hB, hst⟩ := hrel
      by_cases hkm : k < m
      ·obtain ⟨bm, om, rfl, hcm⟩ := hmc.out k hkm
       have hcm' : bm < w.heap.size := World.block_lt_of_cell? w _ hcm
       replace hcm := (hB.out.cell (p := ⟨bm, om + k, none⟩) hcm').trans hcm
       obtain ⟨gb, cb, eb, hgb, -⟩ := World.ownsRow.form hst.out.by_ (by rw [hal.out, hl2.out]; omega)
       simp only [Value.slice.injEq] at eb
       obtain ⟨rfl, -, -⟩ := eb
       obtain ⟨hcb, hfb⟩ := hst.out.by_.num (k := k) (by rw [hal.out, hl2.out]; omega)
       rw [hnx.out k (by omega)] at hcb
       have hup := hst.out.put k ((Bq.getD k 0 + x * made.getD k 0) % 65521)
       rw [hse.out k] at hup
       replace hup := Lib.hid hup
       have hB6 := Lib.hid (hB.out.setCell (p := ⟨gb, k, none⟩) hgb (.int .i64 ((Bq.getD k 0 + x * made.getD k 0) % 65521)))
       have hv1 := hmd.out k
       have hv2 := hbd'.out hbq2.out k
       have ⟨p1, p2⟩ := mul_bd (show 0 ≤ x by omega) (show x < 65521 by omega) hv1.1 hv1.2
       generalize made.getD k 0 = mk at *
       generalize Bq.getD k 0 = bk at *
       have k1 : (k : Int) < (m : Int) := by omega
       have k2 : (k : Int) < (D : Int) := by omega
       have k0 : (0 : Int) ≤ (k : Int) := by omega
       clear hB hst
       go_wp2
       go_roundw
       case rel => exact ⟨k + 1, by omega, by go_num, hB6, hup⟩
       case measure => simp [intOf]; omega
      ·obtain rfl : k = m := by omega
       go_wp2
       go_roundw
       case rel => exact ⟨q + 1, by omega, by go_num, hB, by rw [hst1.out]; have := hst.out; rw [hae.out] at this; exact Lib.hid this⟩
       case measure => simp [intOf]; omega
   ·obtain rfl : q = D := by omega
    go_wp2
    go_ret2
    exact ⟨⟨_, _, rfl, by rw [← hend.out]; exact hst.out.left, by rw [← hend.out]; exact hst.out.by_⟩, hB.out⟩
end Go.Proofs.YtlpldfocljnpnaaDoor
namespace Go.Proofs.YtlpldfocljnpnaaDoor
open Go.RowKit Go.Shelf
structure SpanG (w : World) (base p : Nat) (L R M : Value) (rs ms : List Value) (lc : List Value) (nl : Nat) (reds mades : List (List Int)) : Prop where
 box : w.heap[p]? = some (.cells #[L, R, M] 100 (0, 0))
 lo : base ≤ p
 leads : w.ownsRow base 144 2 L nl lc
 red : OwnMv w base R reds rs
 made : OwnMv w base M mades ms
 apart : ∀ u ∈ R :: rs, ∀ v ∈ M :: ms, u.ownBlock = none ∨ u.ownBlock ≠ v.ownBlock
theorem SpanO.g {w : World} {base p : Nat} {L R M : Value} {rs ms : List Value} {s : SpL} (h : SpanO w base p L R M rs ms s) : SpanG w base p L R M rs ms (leadC 0 s) s.length (s.map fun q => q.2.1) (s.map fun q => q.2.2) := ⟨h.box, h.lo, h.leads, h.red, h.made, h.apart⟩
theorem SpanG.o {w : World} {base p : Nat} {L R M : Value} {rs ms : List Value} {s : SpL} (h : SpanG w base p L R M rs ms (leadC 0 s) s.length (s.map fun q => q.2.1) (s.map fun q => q.2.2)) : SpanO w base p L R M rs ms s := ⟨h.box, h.lo, h.leads, h.red, h.made, h.apart⟩
theorem own_box_ne {w : World} {base p : Nat} {e T : TypeId} {size n : Nat} {v : Value} {xs : List Value} {cs : Array Value} {fr : Nat × Nat} (h : w.ownsRow base e size v n xs) (hb : w.heap[p]? = some (.cells cs T fr)) (hT : e ≠ T) : v.ownBlock ≠ some p := by
 intro hk
 rcases h.2 with ⟨rfl, _⟩ | ⟨g, cap, cur, rfl, _, hg, _⟩
 ·cases hk
 ·have : g = p := by simpa [Value.ownBlock] using hk
  subst this
  rw [hg] at hb
  injection hb with hb
  injection hb with _ ht
  exact hT ht
theorem none_or_ne {a b : Option Nat} (h : ∀ k, a = some k → b ≠ some k) : a = none ∨ a ≠ b := by
 cases a with
 | none => exact .inl rfl
 | some k => exact .inr fun e => h k rfl e.symm
namespace SpanG
variable {w w' w1 w2 : World} {base p nl : Nat} {L R M : Value} {rs ms lc : List Value} {reds mades : List (List Int)}
theorem ge (h : SpanG w base p L R M rs ms lc nl reds mades) {k : Nat} (hk : spanF p L R M rs ms k) : base ≤ k ∧ k < w.heap.size := by
 rcases hk with rfl | ⟨u, hu, e⟩
 ·exact ⟨h.lo, lt_of_block h.box⟩
 ·rcases List.mem_cons.1 hu with rfl | hu
  ·exact h.leads.lt k e
  ·rcases List.mem_cons.1 hu with rfl | hu
   ·exact h.red.outer.lt k e
   ·rcases List.mem_cons.1 hu with rfl | hu
    ·exact h.made.outer.lt k e
    ·rcases List.mem_append.1 hu with hu | hu
     ·exact h.red.ge u hu k e
     ·exact h.made.ge u hu k e
theorem kept (h : SpanG w base p L R M rs ms lc nl reds mades) (hb : Below w.heap.size w w') : SpanG w' base p L R M rs ms lc nl reds mades :=
 ⟨heap_keep h.box hb, h.lo, own_below h.leads hb, h.red.kept hb, h.made.kept hb, h.apart⟩
theorem lead_ne (h : SpanG w base p L R M rs ms lc nl reds mades) : ∀ u ∈ R :: M :: (rs ++ ms), u.ownBlock = none ∨ u.ownBlock ≠ L.ownBlock := by
 intro u hu
 rcases List.mem_cons.1 hu with rfl | hu
 ·exact own_ne h.red.outer h.leads (by decide)
 ·rcases List.mem_cons.1 hu with rfl | hu
  ·exact own_ne h.made.outer h.leads (by decide)
  ·rcases List.mem_append.1 hu with hu | hu
   ·obtain ⟨j, hj, rfl⟩ := List.getElem_of_mem hu
    exact own_ne (h.red.rows j _ _ (List.getElem?_eq_getElem (by have := h.red.len; omega)) (List.getElem?_eq_getElem hj)) h.leads (by decide)
   ·obtain ⟨j, hj, rfl⟩ := List.getElem_of_mem hu
    exact own_ne (h.made.rows j _ _ (List.getElem?_eq_getElem (by have := h.made.len; omega)) (List.getElem?_eq_getElem hj)) h.leads (by decide)
theorem row_box_ne (h : SpanG w base p L R M rs ms lc nl reds mades) : ∀ u ∈ R :: M :: (rs ++ ms), u.ownBlock ≠ some p := by
 intro u hu
 rcases List.mem_cons.1 hu with rfl | hu
 ·exact own_box_ne h.red.outer h.box (by decide)
 ·rcases List.mem_cons.1 hu with rfl | hu
  ·exact own_box_ne h.made.outer h.box (by decide)
  ·rcases List.mem_append.1 hu with hu | hu
   ·obtain ⟨j, hj, rfl⟩ := List.getElem_of_mem hu
    exact own_box_ne (h.red.rows j _ _ (List.getElem?_eq_getElem (by have := h.red.len; omega)) (List.getElem?_eq_getElem hj)) h.box (by decide)
   ·obtain ⟨j, hj, rfl⟩ := List.getElem_of_mem hu
    exact own_box_ne (h.made.rows j _ _ (List.getElem?_eq_getElem (by have := h.made.len; omega)) (List.getElem?_eq_getElem hj)) h.box (by decide)
theorem add_lead (h : SpanG w base p L R M rs ms lc nl reds mades) (ha : Below w.heap.size w w1) {L' : Value} {lc' : List Value} {nl' : Nat} (ho : w2.ownsRow base 144 2 L' nl' lc') (hg : w1.grownBy w2 L.ownBlock) (hL : L'.ownBlock = L.ownBlock ∨ L'.ownBlock = some w1.heap.size) :
  SpanG (w2.setCell ⟨p, 0, none⟩ L') base p L' R M rs ms lc' nl' reds mades ∧ Frame (spanF p L R M rs ms) w (w2.setCell ⟨p, 0, none⟩ L') ∧ ∀ k, spanF p L' R M rs ms k → spanF p L R M rs ms k ∨ w.heap.size ≤ k := by
 have h1 := h.kept ha
 have hp1 := lt_of_block h1.box
 have hLp := own_box_ne h1.leads h1.box (by decide)
 have hp2 : w2.heap[p]? = some (.cells #[L, R, M] 100 (0, 0)) := (hg.block p hp1 (fun e => hLp e.symm)).trans h1.box
 have hLp' : L'.ownBlock ≠ some p := by
  rcases hL with e | e
  ·rw [e]; exact hLp
  ·rw [e]; intro e2; cases e2; omega
 have hrow : ∀ {e : TypeId} {size n : Nat} {u : Value} {xs : List Value}, u ∈ R :: M :: (rs ++ ms) → w1.ownsRow base e size u n xs → (w2.setCell ⟨p, 0, none⟩ L').ownsRow base e size u n xs := fun hu ho => by
  have h2 := ho.kept hg (h1.lead_ne _ hu)
  exact own_of_block h2 fun g hg' => Below.heap_setCell _ _ _ _ (fun e => h1.row_box_ne _ hu (by rw [hg']; exact congrArg some e))
 refine ⟨⟨heap_set1 _ hp2, h.lo, own_of_block ho fun g hg' => Below.heap_setCell _ _ _ _ (fun e => hLp' (by rw [hg']; exact congrArg some e)),
  ⟨hrow (by simp) h1.red.outer, fun j r u hr hu => hrow (by have := List.mem_of_getElem? hu; simp [this]) (h1.red.rows j r u hr hu), h1.red.apart⟩,
  ⟨hrow (by simp) h1.made.outer, fun j r u hr hu => hrow (by have := List.mem_of_getElem? hu; simp [this]) (h1.made.rows j r u hr hu), h1.made.apart⟩, h.apart⟩, ?_, ?_⟩
 ·refine ((Frame.of_below ha).trans (F' := spanF p L R M rs ms) (Frame.grown hg (fun k e => .inr ⟨L, by simp, e⟩)) (fun k h => .inl h)).trans (F' := spanF p L R M rs ms) (Frame.setCell _ _ _ _ (.inl rfl)) (fun k h => .inl h)
 ·rintro k (rfl | ⟨u, hu, e⟩)
  ·exact .inl (.inl rfl)
  ·rcases List.mem_cons.1 hu with rfl | hu
   ·rcases hL with e2 | e2
    ·exact .inl (.inr ⟨L, by simp, by rw [← e2]; exact e⟩)
    ·right
     rw [e2] at e; cases e
     exact ha.size
   ·exact .inl (.inr ⟨u, List.mem_cons_of_mem _ hu, e⟩)
theorem add_red (h : SpanG w base p L R M rs ms lc nl reds mades) (ha : Below w.heap.size w w1) {R' u : Value} {r : List Int} (hu : OwnI w base u r) (hun : ∀ k, u.ownBlock = some k → ¬ spanF p L R M rs ms k) (ho : w2.ownsRow base 22 1 R' (reds.length + 1) (rs ++ [u])) (hg : w1.grownBy w2 R.ownBlock) (hR : R'.ownBlock = R.ownBlock ∨ R'.ownBlock = some w1.heap.size) :
  SpanG (w2.setCell ⟨p, 1, none⟩ R') base p L R' M (rs ++ [u]) ms lc nl (reds ++ [r]) mades ∧ Frame (spanF p L R M rs ms) w (w2.setCell ⟨p, 1, none⟩ R') ∧ ∀ k, spanF p L R' M (rs ++ [u]) ms k → spanF p L R M rs ms k ∨ w.heap.size ≤ k ∨ u.ownBlock = some k := by
 have h1 := h.kept ha
 have hp1 := lt_of_block h1.box
 have hRp := h1.row_box_ne R (by simp)
 have hp2 : w2.heap[p]? = some (.cells #[L, R, M] 100 (0, 0)) := (hg.block p hp1 (fun e => hRp e.symm)).trans h1.box
 have hRp' : R'.ownBlock ≠ some p := by
  rcases hR with e | e
  ·rw [e]; exact hRp
  ·rw [e]; intro e2; cases e2; omega
 have hu1 := hu.below ha
 have hup : u.ownBlock ≠ some p := fun e => hun p e (.inl rfl)
 have set_ : ∀ {e : TypeId} {size n : Nat} {v : Value} {xs : List Value}, v.ownBlock ≠ some p → w2.ownsRow base e size v n xs → (w2.setCell ⟨p, 1, none⟩ R').ownsRow base e size v n xs := fun hv ho =>
  own_of_block ho fun g hg' => Below.heap_setCell _ _ _ _ (fun e => hv (by rw [hg']; exact congrArg some e))
 have hLR : L.ownBlock = none ∨ L.ownBlock ≠ R.ownBlock := own_ne h1.leads h1.red.outer (by decide)
 have hsn : OwnMv w2 base R' (reds ++ [r]) (rs ++ [u]) := h1.red.snoc hu1 (fun x hx => none_or_ne fun k hk e => hun k e (.inr ⟨x, by simp [hx], hk⟩)) ho rfl hg
 have hMne : ∀ v ∈ M :: ms, v.ownBlock = none ∨ v.ownBlock ≠ R.ownBlock := fun v hv => none_or_ne fun k hk e => by
  rcases h.apart R List.mem_cons_self v hv with h2 | h2
  ·rw [h2] at e; cases e
  ·exact h2 (by rw [e, hk])
 have hMn := hMne
 refine ⟨⟨heap_set1 _ hp2, h.lo, set_ (own_box_ne h1.leads h1.box (by decide)) (h1.leads.kept hg hLR),
  ⟨set_ hRp' hsn.outer, fun j r' x hr hx => set_ (by
   rcases List.mem_append.1 (List.mem_of_getElem? hx) with hx | hx
   ·exact h1.row_box_ne x (by simp [hx])
   ·rw [List.mem_singleton.1 hx]; exact hup) (hsn.rows j r' x hr hx), hsn.apart⟩,
  ⟨set_ (h1.row_box_ne M (by simp)) (h1.made.outer.kept hg (hMn M List.mem_cons_self)), fun j r' x hr hx => set_ (h1.row_box_ne x (by have := List.mem_of_getElem? hx; simp [this])) ((h1.made.rows j r' x hr hx).kept hg (hMn x (List.mem_cons_of_mem _ (List.mem_of_getElem? hx)))), h1.made.apart⟩, ?_⟩, ?_, ?_⟩
 ·intro x hx v hv
  refine none_or_ne fun k hk e => ?_
  rcases List.mem_cons.1 hx with rfl | hx
  ·rcases hR with e2 | e2
   ·rcases h.apart R List.mem_cons_self v hv with h2 | h2
    ·rw [← e2, hk] at h2; cases h2
    ·exact h2 (by rw [← e2, hk, e])
   ·have hk1 : k = w1.heap.size := by rw [e2] at hk; exact (Option.some.inj hk).symm
    have : k < w1.heap.size := by
     rcases List.mem_cons.1 hv with rfl | hv
     ·exact (h1.made.outer.lt k e).2
     ·exact (h1.made.ge v hv k e).2
    omega
  ·rcases List.mem_append.1 hx with hx | hx
   ·rcases h.apart x (List.mem_cons_of_mem _ hx) v hv with h2 | h2
    ·rw [hk] at h2; cases h2
    ·exact h2 (by rw [hk, e])
   ·rw [List.mem_singleton.1 hx] at hk
    exact hun k hk (.inr ⟨v, by rcases List.mem_cons.1 hv with rfl | hv <;> simp [*], e⟩)
 ·refine ((Frame.of_below ha).trans (F' := spanF p L R M rs ms) (Frame.grown hg (fun k e => .inr ⟨R, by simp, e⟩)) (fun k h => .inl h)).trans (F' := spanF p L R M rs ms) (Frame.setCell _ _ _ _ (.inl rfl)) (fun k h => .inl h)
 ·rintro k (rfl | ⟨x, hx, e⟩)
  ·exact .inl (.inl rfl)
  ·rcases List.mem_cons.1 hx with rfl | hx
   ·exact .inl (.inr ⟨x, by simp, e⟩)
   ·rcases List.mem_cons.1 hx with rfl | hx
    ·rcases hR with e2 | e2
     ·exact .inl (.inr ⟨R, by simp, by rw [← e2]; exact e⟩)
     ·rw [e2] at e; cases e
      exact .inr (.inl ha.size)
    ·rcases List.mem_cons.1 hx with rfl | hx
     ·exact .inl (.inr ⟨x, by simp, e⟩)
     ·rcases List.mem_append.1 hx with hx | hx
      ·rcases List.mem_append.1 hx with hx | hx
       ·exact .inl (.inr ⟨x, by simp [hx], e⟩)
       ·rw [List.mem_singleton.1 hx] at e; exact .inr (.inr e)
      ·exact .inl (.inr ⟨x, by simp [hx], e⟩)
theorem add_made (h : SpanG w base p L R M rs ms lc nl reds mades) (ha : Below w.heap.size w w1) {M' u : Value} {r : List Int} (hu : OwnI w base u r) (hun : ∀ k, u.ownBlock = some k → ¬ spanF p L R M rs ms k) (ho : w2.ownsRow base 22 1 M' (mades.length + 1) (ms ++ [u])) (hg : w1.grownBy w2 M.ownBlock) (hM : M'.ownBlock = M.ownBlock ∨ M'.ownBlock = some w1.heap.size) :
  SpanG (w2.setCell ⟨p, 2, none⟩ M') base p L R M' rs (ms ++ [u]) lc nl reds (mades ++ [r]) ∧ Frame (spanF p L R M rs ms) w (w2.setCell ⟨p, 2, none⟩ M') ∧ ∀ k, spanF p L R M' rs (ms ++ [u]) k → spanF p L R M rs ms k ∨ w.heap.size ≤ k ∨ u.ownBlock = some k := by
 have h1 := h.kept ha
 have hp1 := lt_of_block h1.box
 have hRp := h1.row_box_ne M (by simp)
 have hp2 : w2.heap[p]? = some (.cells #[L, R, M] 100 (0, 0)) := (hg.block p hp1 (fun e => hRp e.symm)).trans h1.box
 have hRp' : M'.ownBlock ≠ some p := by
  rcases hM with e | e
  ·rw [e]; exact hRp
  ·rw [e]; intro e2; cases e2; omega
 have hu1 := hu.below ha
 have hup : u.ownBlock ≠ some p := fun e => hun p e (.inl rfl)
 have set_ : ∀ {e : TypeId} {size n : Nat} {v : Value} {xs : List Value}, v.ownBlock ≠ some p → w2.ownsRow base e size v n xs → (w2.setCell ⟨p, 2, none⟩ M').ownsRow base e size v n xs := fun hv ho =>
  own_of_block ho fun g hg' => Below.heap_setCell _ _ _ _ (fun e => hv (by rw [hg']; exact congrArg some e))
 have hLR : L.ownBlock = none ∨ L.ownBlock ≠ M.ownBlock := own_ne h1.leads h1.made.outer (by decide)
 have hsn : OwnMv w2 base M' (mades ++ [r]) (ms ++ [u]) := h1.made.snoc hu1 (fun x hx => none_or_ne fun k hk e => hun k e (.inr ⟨x, by simp [hx], hk⟩)) ho rfl hg
 have hMn : ∀ v ∈ R :: rs, v.ownBlock = none ∨ v.ownBlock ≠ M.ownBlock := fun v hv => h.apart v hv M List.mem_cons_self
 refine ⟨⟨heap_set1 _ hp2, h.lo, set_ (own_box_ne h1.leads h1.box (by decide)) (h1.leads.kept hg hLR),
  ⟨set_ (h1.row_box_ne R (by simp)) (h1.red.outer.kept hg (hMn R List.mem_cons_self)), fun j r' x hr hx => set_ (h1.row_box_ne x (by have := List.mem_of_getElem? hx; simp [this])) ((h1.red.rows j r' x hr hx).kept hg (hMn x (List.mem_cons_of_mem _ (List.mem_of_getElem? hx)))), h1.red.apart⟩,
  ⟨set_ hRp' hsn.outer, fun j r' x hr hx => set_ (by
   rcases List.mem_append.1 (List.mem_of_getElem? hx) with hx | hx
   ·exact h1.row_box_ne x (by simp [hx])
   ·rw [List.mem_singleton.1 hx]; exact hup) (hsn.rows j r' x hr hx), hsn.apart⟩, ?_⟩, ?_, ?_⟩
 ·intro v hv x hx
  refine none_or_ne fun k hv' e => ?_
  rcases List.mem_cons.1 hx with rfl | hx
  ·rcases hM with e2 | e2
   ·rcases h.apart v hv M List.mem_cons_self with h2 | h2
    ·rw [hv'] at h2; cases h2
    ·exact h2 (by rw [hv', ← e2, e])
   ·have hk1 : k = w1.heap.size := by rw [e2] at e; exact (Option.some.inj e).symm
    have : k < w1.heap.size := by
     rcases List.mem_cons.1 hv with rfl | hv
     ·exact (h1.red.outer.lt k hv').2
     ·exact (h1.red.ge v hv k hv').2
    omega
  ·rcases List.mem_append.1 hx with hx | hx
   ·rcases h.apart v hv x (List.mem_cons_of_mem _ hx) with h2 | h2
    ·rw [hv'] at h2; cases h2
    ·exact h2 (by rw [hv', e])
   ·rw [List.mem_singleton.1 hx] at e
    exact hun k e (.inr ⟨v, by rcases List.mem_cons.1 hv with rfl | hv <;> simp [*], hv'⟩)
 ·refine ((Frame.of_below ha).trans (F' := spanF p L R M rs ms) (Frame.grown hg (fun k e => .inr ⟨M, by simp, e⟩)) (fun k h => .inl h)).trans (F' := spanF p L R M rs ms) (Frame.setCell _ _ _ _ (.inl rfl)) (fun k h => .inl h)
 ·rintro k (rfl | ⟨x, hx, e⟩)
  ·exact .inl (.inl rfl)
  ·rcases List.mem_cons.1 hx with rfl | hx
   ·exact .inl (.inr ⟨x, by simp, e⟩)
   ·rcases List.mem_cons.1 hx with rfl | hx
    ·exact .inl (.inr ⟨x, by simp, e⟩)
    ·rcases List.mem_cons.1 hx with rfl | hx
     ·rcases hM with e2 | e2
      ·exact .inl (.inr ⟨M, by simp, by rw [← e2]; exact e⟩)
      ·rw [e2] at e; cases e
       exact .inr (.inl ha.size)
     ·rcases List.mem_append.1 hx with hx | hx
      ·exact .inl (.inr ⟨x, by simp [hx], e⟩)
      ·rcases List.mem_append.1 hx with hx | hx
       ·exact .inl (.inr ⟨x, by simp [hx], e⟩)
       ·rw [List.mem_singleton.1 hx] at e; exact .inr (.inr e)
end SpanG
end Go.Proofs.YtlpldfocljnpnaaDoor
namespace Go.Proofs.YtlpldfocljnpnaaDoor
open Go.RowKit Go.Shelf
theorem add_1 (x : Int) (w : World) (B : Nat) (w0 : World) (hB : Below B w0 w) : Calls Tryd.prog 128 #[.int .i64 x] w fun e w' => e = .returned (.bool (decide (x ≠ 0))) ∧ Below B w0 w' := by
 by_cases h : x = 0
 ·subst h
  go_enter Tryd.func128, Tryd.ntmps128
  go_wp2
  go_ret
  exact ⟨rfl, hB⟩
 ·have h2 : (x != 0) = true := by rw [bne_iff_ne]; exact h
  have h3 : decide (x ≠ 0) = true := by simpa using h
  replace h3 := Lib.hid h3
  go_enter Tryd.func128, Tryd.ntmps128
  go_wp2
  go_ret
  exact ⟨by rw [h3.out]; rfl, hB⟩
theorem first_idx (l : List Int) : fstIdx (fun j => decide (l.getD j 0 ≠ 0)) l.length = match firstN l with | some j => (j : Int) | none => -1 := rfl
theorem first_any' (l : List Int) (v : Value) (w : World) (h : RdI w v l) : Calls Tryd.prog 125 #[v, .func (.func 128) #[] #[]] w fun e w' => e = .returned (.int .i64 (match firstN l with | some j => (j : Int) | none => -1)) ∧ Below w.heap.size w w' := by
 have hc := IndexFunc_int (ints l) (fun j => decide (l.getD j 0 ≠ 0)) v 128 #[] (enters_of Tryd.func128 (by kernel_rfl) rfl) w h (fun W j u hB hu => by
  rw [ints_get] at hu
  obtain ⟨x, hx, rfl⟩ := Option.map_eq_some_iff.1 hu
  have : l.getD j 0 = x := by rw [List.getD_eq_getElem?_getD, hx]; rfl
  rw [this]
  exact add_1 x W _ w hB)
 rw [ints_len, first_idx] at hc
 exact hc
theorem addSp_none {s : SpL} {row : List Int} (h : addSp s row = none) : firstN (splitL s row (List.replicate s.length 0)).1 = none := by
 unfold addSp at h
 dsimp only at h
 cases e : firstN (splitL s row (List.replicate s.length 0)).1 with
 | none => rfl
 | some i => rw [e] at h; cases h
theorem addSp_some {s s' : SpL} {row : List Int} (h : addSp s row = some s') : ∃ i, firstN (splitL s row (List.replicate s.length 0)).1 = some i ∧
  s' = s ++ [(i, (splitL s row (List.replicate s.length 0)).1.map fun x => x * invN ((splitL s row (List.replicate s.length 0)).1.getD i 0) % 65521, plusL (splitL s row (List.replicate s.length 0)).2.length [65521 - invN ((splitL s row (List.replicate s.length 0)).1.getD i 0)] [(splitL s row (List.replicate s.length 0)).2] ++ [invN ((splitL s row (List.replicate s.length 0)).1.getD i 0)])] := by
 unfold addSp at h
 dsimp only at h
 cases e : firstN (splitL s row (List.replicate s.length 0)).1 with
 | none => rw [e] at h; cases h
 | some i => rw [e] at h; exact ⟨i, rfl, (Option.some.inj h).symm⟩
theorem add_no (s : SpL) (N : Nat) (hs : SpShape s N) (hN : N ≤ 1000) (p : Nat) (row : List Int) (vr : Value) (w : World) (hS : SpanR w p s) (rr : RdI w vr row) (hr : row.length = N) (hb : ∀ u ∈ row, 0 ≤ u ∧ u < 65521) (hno : addSp s row = none) :
  Calls Tryd.prog 120 #[.pointer (some ⟨p, 0, none⟩), vr] w fun e w' => e = .returned (.bool false) ∧ Below w.heap.size w w' := by
 have hsp := Lib.hid (split_any s N hs hN p row vr w hS rr hr hb)
 have hf := addSp_none hno
 have hln := (splitL_lens s row (List.replicate s.length 0)).1
 rw [hr] at hln
 replace hln := Lib.hid hln
 clear hS rr hr hb hs hno
 generalize splitL s row (List.replicate s.length 0) = q at *
 replace hf := Lib.hid hf
 have hfi := Lib.hid (fun v W h => (first_any' q.1 v W h).mono (R' := fun e w' => e = .returned (.int .i64 (-1)) ∧ Below W.heap.size W w') (fun e w' ⟨h1, h2⟩ => ⟨by rw [h1, hf.out], h2⟩))
 go_enter Tryd.func120, Tryd.ntmps120
 go_wp2_with fail
 refine hsp.out.mono ?_; rintro e W1 ⟨⟨v1, v2, rfl, o1, o2⟩, hB1⟩
 have hf2 := Lib.hid (hfi.out v1 W1 (o1.rd (by rw [hln.out]; omega)))
 clear o1 o2
 go_wp2_with fail
 refine hf2.out.mono ?_; rintro e W2 ⟨rfl, hB2⟩
 have hB3 := Lib.hid (Below.then_ hB1 hB2)
 clear hB1 hB2
 go_wp2
 go_ret
 exact ⟨rfl, hB3.out⟩
def scQ (l : List Int) (v : Int) (k : Nat) : List Int := (List.range l.length).map fun j => if j < k then l.getD j 0 * v % 65521 else l.getD j 0
theorem scQ_len (l : List Int) (v : Int) (k : Nat) : (scQ l v k).length = l.length := by simp [scQ]
theorem scQ_zero (l : List Int) (v : Int) : scQ l v 0 = l := by
 apply List.ext_getElem (by simp [scQ])
 intro j h1 h2
 simp only [scQ, List.getElem_map, List.getElem_range]
 rw [if_neg (Nat.not_lt_zero j), List.getD_eq_getElem?_getD, List.getElem?_eq_getElem h2]; rfl
theorem scQ_end (l : List Int) (v : Int) : scQ l v l.length = l.map fun x => x * v % 65521 := by
 apply List.ext_getElem (by simp [scQ])
 intro j h1 h2
 have hj : j < l.length := by simpa [scQ] using h1
 simp only [scQ, List.getElem_map, List.getElem_range]
 rw [if_pos hj, List.getD_eq_getElem?_getD, List.getElem?_eq_getElem hj]; rfl
theorem scQ_get {l : List Int} (v : Int) {k : Nat} (hk : k < l.length) : (scQ l v k).getD k 0 = l.getD k 0 := by
 rw [scQ, getD_map_range _ _ hk, if_neg (Nat.lt_irrefl k)]
theorem scQ_set {l : List Int} {v : Int} {k : Nat} : (scQ l v k).set k (l.getD k 0 * v % 65521) = scQ l v (k + 1) := by
 apply List.ext_getElem (by simp [scQ])
 intro j h1 h2
 rw [List.getElem_set]
 simp only [scQ, List.getElem_map, List.getElem_range]
 by_cases e : k = j
 ·subst e; rw [if_pos rfl, if_pos (by omega)]
 ·rw [if_neg e]
  by_cases h : j < k
  ·rw [if_pos h, if_pos (by omega)]
  ·rw [if_neg h, if_neg (by omega)]
theorem rd_one1 (w : World) (x : Int) : RdI (w.alloc (.cells #[.int .i64 x] 3)) (.slice (some ⟨w.heap.size, 0, none⟩) 1 1) [x] := by
 refine ⟨_, 1, rfl, by simp [ints], by simp [ints], fun _ => ⟨_, 0, rfl, fun j u hj => ?_⟩⟩
 match j, hj with
 | 0, hj => cases hj; exact cell_new w (.int .i64 x) 3
theorem rdM_one1 {w : World} {u : Value} {a : List Int} (ha : RdI w u a) : RdM (w.alloc (.cells #[u] 22)) (.slice (some ⟨w.heap.size, 0, none⟩) 1 1) [a] := by
 refine ⟨[u], ⟨_, 1, rfl, by simp, by simp, fun _ => ⟨_, 0, rfl, fun j x hj => ?_⟩⟩, rfl, fun j r x hr hx => ?_⟩
 ·match j, hj with
  | 0, hj => cases hj; exact cell_new w u 22
 ·match j, hr, hx with
  | 0, hr, hx => cases hr; cases hx; exact ha.below ((Below.refl w.heap.size w).alloc (Nat.le_refl _) _) (Nat.le_refl _)
theorem firstN_lt {l : List Int} {i : Nat} (h : firstN l = some i) : i < l.length ∧ l.getD i 0 ≠ 0 := by
 have h1 := List.mem_of_find?_eq_some h
 have h2 := List.find?_some h
 exact ⟨List.mem_range.1 h1, by simpa using h2⟩
structure AddSt (b0 : Nat) (W : World) (l m : Value) (L M : List Int) : Prop where
 left : OwnI W b0 l L
 made : OwnI W b0 m M
 ne : l.ownBlock = none ∨ l.ownBlock ≠ m.ownBlock
theorem AddSt.below {b0 : Nat} {w w' : World} {l m : Value} {L M : List Int} (h : AddSt b0 w l m L M) (hb : Below w.heap.size w w') : AddSt b0 w' l m L M := ⟨h.left.below hb, h.made.below hb, h.ne⟩
theorem AddSt.frame {b0 : Nat} {F : Nat → Prop} {w w' : World} {l m : Value} {L M : List Int} (h : AddSt b0 w l m L M) (hf : Frame F w w') (hF : ∀ k, F k → k < b0) : AddSt b0 w' l m L M :=
 ⟨hf.owns h.left fun k hk hn => by have := (World.ownsRow.lt h.left k hk).1; have := hF k hn; omega, hf.owns h.made fun k hk hn => by have := (World.ownsRow.lt h.made k hk).1; have := hF k hn; omega, h.ne⟩
theorem AddSt.put {b0 : Nat} {w : World} {m : Value} {g n c : Nat} {L M : List Int} (h : AddSt b0 w (.slice (some ⟨g, 0, none⟩) n c) m L M) (k : Nat) (x : Int) : AddSt b0 (w.setCell ⟨g, k, none⟩ (.int .i64 x)) (.slice (some ⟨g, 0, none⟩) n c) m (L.set k x) M :=
 ⟨h.left.put k x, own_of_block h.made fun q hq => Below.heap_setCell _ _ _ _ (fun e => by
  rcases h.ne with h1 | h1
  ·cases h1
  ·exact h1 (by rw [hq]; show some g = some q; rw [show q = g from e])), h.ne⟩
theorem SpanG.snoc {w : World} {base p D i : Nat} {L R M : Value} {rs ms : List Value} {s : SpL} {r m : List Int} (h : SpanG w base p L R M rs ms (leadC 0 s ++ [.int .i64 (D : Nat), .int .i64 (i : Nat)]) (D + 1) ((s.map fun q => q.2.1) ++ [r]) ((s.map fun q => q.2.2) ++ [m])) (hD : s.length = D) : SpanO w base p L R M rs ms (s ++ [(i, r, m)]) := by
 subst hD
 refine SpanG.o ?_
 rw [leadC_snoc, List.length_append, List.map_append, List.map_append, Nat.zero_add]
 exact h
theorem infoLd : (Tryd.prog.info? 144).map (fun i => (i.zero, i.size, i.bytes)) = some (some (.agg #[.int .i64 0, .int .i64 0]), 2, 16) := by kernel_rfl
theorem frozen3 {W : World} {g : Nat} {a b c : Value} {T : TypeId} (h : W.heap[g]? = some (.cells #[a, b, c] T (0, 0))) : W.frozen? ⟨g, 0, none⟩ = false ∧ W.frozen? ⟨g, 1, none⟩ = false ∧ W.frozen? ⟨g, 2, none⟩ = false := by
 unfold World.frozen?; rw [h]; exact ⟨rfl, rfl, rfl⟩
theorem add_yes (s s' : SpL) (N : Nat) (hs : SpShape s N) (hN : N ≤ 1000) (hsl : s.length < 1000) (base p : Nat) (L R M : Value) (rs ms : List Value) (row : List Int) (vr : Value) (w : World) (hS : SpanO w base p L R M rs ms s) (rr : RdI w vr row) (hr : row.length = N) (hb : ∀ u ∈ row, 0 ≤ u ∧ u < 65521) (hyes : addSp s row = some s') :
  Calls Tryd.prog 120 #[.pointer (some ⟨p, 0, none⟩), vr] w fun e w' => e = .returned (.bool true) ∧ ∃ L' R' M' rs' ms', SpanO w' base p L' R' M' rs' ms' s' ∧ Frame (spanF p L R M rs ms) w w' ∧ ∀ k, spanF p L' R' M' rs' ms' k → spanF p L R M rs ms k ∨ w.heap.size ≤ k := by
 obtain ⟨i0, hi, hz0, hz1, hz2⟩ := info_parts infoI
 obtain ⟨iR, hiR, hR0, hR1, hR2⟩ := info_parts infoR
 obtain ⟨iL, hiL, hL0, hL1, hL2⟩ := info_parts infoLd
 have hsp := Lib.hid (split_any s N hs hN p row vr w (hS.rd (by omega) (fun q hq => ⟨by rw [(hs.rows q hq).2.1]; omega, by have := (hs.rows q hq).2.2.1; omega⟩)) rr hr hb)
 obtain ⟨i, hf, rfl⟩ := addSp_some hyes
 obtain ⟨hln, hl2⟩ := splitL_lens s row (List.replicate s.length 0)
 obtain ⟨hbq, hbq2⟩ := splitL_bd s row (List.replicate s.length 0) hb (fun u hu => by rw [List.eq_of_mem_replicate hu]; decide)
 rw [hr] at hln
 rw [List.length_replicate] at hl2
 replace hS := Lib.hid hS
 clear rr hr hb hs hyes
 generalize splitL s row (List.replicate s.length 0) = q at *
 obtain ⟨Lf, Bf⟩ := q
 simp only [] at hf hln hl2 hbq hbq2
 dsimp only
 obtain ⟨hiN, hx0⟩ := firstN_lt hf
 rw [hln] at hiN
 have hfi := Lib.hid (fun v W h => (first_any' Lf v W h).mono (R' := fun e w' => e = .returned (.int .i64 (i : Nat)) ∧ Below W.heap.size W w') (fun e w' ⟨h1, h2⟩ => ⟨by rw [h1, hf], h2⟩))
 have hxb := getD_bd hbq i
 have hscg := Lib.hid (fun v k (hk : k < N) => scQ_get (l := Lf) v (k := k) (by rw [hln]; exact hk))
 have hscs := Lib.hid (fun v k => scQ_set (l := Lf) (v := v) (k := k))
 have hsce := Lib.hid (fun v => scQ_end Lf v)
 rw [hln] at hsce
 have hsc0 := Lib.hid (fun v => scQ_zero Lf v)
 have hscl := Lib.hid (fun v k => scQ_len Lf v k)
 rw [hln] at hscl
 have hLb := Lib.hid (fun k => getD_bd hbq k)
 generalize hxe : Lf.getD i 0 = x at *
 replace hxe := Lib.hid hxe
 have hiv : invR x = (invN x, 0) := by unfold invR; rw [if_neg (by rw [isN_iff.2 hxb]; decide), if_neg hx0]
 have hinv := Lib.hid (fun W => (Inv_any x W).mono (R' := fun e w' => e = .returned (.tuple #[.int .i64 (invN x), .int .i64 0]) ∧ Below W.heap.size W w') (fun e w' ⟨h1, h2⟩ => ⟨by rw [h1, hiv], h2⟩))
 have hvb := invN_bd x
 rw [show Bf.length = s.length from hl2]
 have hpl := Lib.hid (fun (vt vr : Value) W (ht : RdI W vt [65521 - invN x]) (hr : RdM W vr [Bf]) => plus_any s.length [65521 - invN x] [Bf] vt vr W (by omega) ht hr (by simp) (fun r hr => by rw [List.mem_singleton.1 hr]; exact ⟨by omega, hbq2⟩) (fun u hu => by rw [List.mem_singleton.1 hu]; omega))
 have hpll := Lib.hid (plusL_len s.length [65521 - invN x] [Bf])
 clear hiv hf hbq hbq2
 generalize invN x = v at *
 generalize plusL s.length [65521 - v] [Bf] = P at *
 generalize hD : s.length = D at *
 replace hD := Lib.hid hD
 go_enter Tryd.func120, Tryd.ntmps120
 go_wp2_with fail
 refine hsp.out.mono ?_; rintro e W1 ⟨⟨v1, v2, rfl, o1, o2⟩, hB1⟩
 try simp only [] at o1 o2
 obtain ⟨A1, c1, e1⟩ := own_form o1
 rw [hln] at e1
 subst e1
 obtain ⟨A2, c2, e2⟩ := own_form o2
 rw [hl2] at e2
 subst e2
 have hT1 := Lib.hid hB1
 clear hB1
 go_wp2_with fail
 refine (hfi.out _ W1 (o1.rd (by omega))).mono ?_; rintro e W2 ⟨rfl, hB2⟩
 have hT2 := Lib.hid (Below.then_ hT1.out hB2)
 replace o1 := o1.below hB2
 replace o2 := o2.below hB2
 clear hB2 hT1
 obtain ⟨g1, c1', e1, hg1, -⟩ := World.ownsRow.form o1 (by omega)
 simp only [Value.slice.injEq] at e1
 obtain ⟨rfl, -, -⟩ := e1
 obtain ⟨hcl, -⟩ := o1.num (k := i) (by omega)
 rw [hxe.out] at hcl
 have y1 : (i : Int) < (N : Int) := by omega
 have y0 : (0 : Int) ≤ (i : Int) := by omega
 have y2 : ¬ (i : Int) < 0 := by omega
 have z2 := hT2.out.size
 have r2 := Lib.hid (o2.rd (by omega))
 replace o1 := Lib.hid o1
 clear o2
 replace hln := Lib.hid hln
 replace hl2 := Lib.hid hl2
 go_wp2_with fail
 refine (hinv.out W2).mono ?_; rintro e W3 ⟨rfl, hB3⟩
 have hT3 := Lib.hid (Below.then_ hT2.out hB3)
 replace o1 := Lib.hid (o1.out.below hB3)
 replace r2 := Lib.hid (r2.out.below hB3 (Nat.le_refl _))
 have z3 := hB3.size
 have hgl := (World.ownsRow.lt o1.out g1 rfl).2
 clear hB3 hT2 hcl
 have w1 : IntKind.i64.wrap (65521 - v) = 65521 - v := IntWalk.i64_in _ ⟨by omega, by omega⟩
 have hX1 : Below W3.heap.size W3 (W3.alloc (.cells #[.int .i64 (65521 - v)] 3)) := (Below.refl _ _).alloc (Nat.le_refl _) _
 have hX2 : Below (W3.alloc (.cells #[.int .i64 (65521 - v)] 3)).heap.size (W3.alloc (.cells #[.int .i64 (65521 - v)] 3)) ((W3.alloc (.cells #[.int .i64 (65521 - v)] 3)).alloc (.cells #[.slice A2 D c2] 22)) := (Below.refl _ _).alloc (Nat.le_refl _) _
 have hX := Lib.hid (Below.then_ hX1 hX2)
 have hpl2 := Lib.hid (hpl.out _ _ _ ((rd_one1 W3 (65521 - v)).below hX2 (Nat.le_refl _)) (rdM_one1 (r2.out.below hX1 (Nat.le_refl _))))
 have hsx : (W3.alloc (.cells #[.int .i64 (65521 - v)] 3)).heap.size = W3.heap.size + 1 := by simp
 rw [hsx] at hpl2
 clear hX1 hX2 hsx r2
 go_wp2_with fail
 refine hpl2.out.mono ?_; rintro e W4 ⟨⟨vp, rfl, oP⟩, hb4⟩
 have hB4 := Lib.hid (Below.then_ hX.out hb4)
 have hT4 := Lib.hid (Below.then_ hT3.out hB4.out)
 replace o1 := Lib.hid (o1.out.below hB4.out)
 have z4 := hX.out.size
 have z5 := hb4.size
 obtain ⟨A3, c3, e3⟩ := own_form oP
 rw [hpll.out] at e3
 subst e3
 have oP' : W4.ownsRow W3.heap.size 3 1 (.slice A3 D c3) D (ints P) := by
  have := oP.base z4; unfold OwnI at this; rwa [hpll.out] at this
 have hal : Below W4.heap.size W4 (W4.alloc (.cells #[.int .i64 v] 3)) := (Below.refl _ _).alloc (Nat.le_refl _) _
 have oP2 := Lib.hid (own_below oP' hal)
 clear hb4 hX oP oP' hpl2
 go_wp2_with (at_builtin; (refine wpList_app1 rfl _ _ 22 rfl 3 i0 _ 1 8 Tryd.underlying22 hi hz0 hz1 hz2 rfl (by omega) (by omega) W3.heap.size (.slice A3 D c3) D (ints P) rfl oP2.out ⟨W4.heap.size, 0, none⟩ [.int .i64 v] rfl rfl (news_new W4 [.int .i64 v] _) (by simp [Value.oneCell']) (by omega) (by simp; omega) ?_); intro A4 c4 W5 hown5 hgrow5 _)
 have oM := Lib.hid (own_snoc1 hpll.out hown5)
 have hB5 := Lib.hid ((Below.refl W4.heap.size W4).alloc (Nat.le_refl _) (.cells #[.int .i64 v] 3))
 have hX5 : Hid (Below W3.heap.size W4 W5) := Lib.hid ((hal.mono (by omega)).grown hgrow5 (by simp; omega) (fun k hk => (oP2.out.lt k hk).1))
 have hT5 := Lib.hid (hT4.out.trans (hX5.out.mono (by omega)))
 have hst5 : Hid (AddSt w.heap.size W5 (.slice (some ⟨g1, 0, none⟩) N c1) (.slice A4 (D + 1) c4) (scQ Lf v 0) (P ++ [v])) := Lib.hid (by
  rw [hsc0.out]
  refine ⟨own_of_block o1.out (fun g hg => by cases hg; exact hX5.out.block g1 hgl), oM.out.base (by have := hT3.out.size; omega), .inr fun e => ?_⟩
  have h1 := (World.ownsRow.lt oM.out g1 (by rw [← e]; rfl)).1
  omega)
 have z6 := hT5.out.size
 clear hgrow5 hown5 oP2 hal o1 oM hB5 hX5 hT4 hB4 hT3
 go_wp2
 go_loopw [11, 43] (fun _ j wr => ∃ k : Nat, k ≤ N ∧ j = .int .i64 k ∧ Hid (Below w.heap.size w wr) ∧ Hid (AddSt w.heap.size wr (.slice (some ⟨g1, 0, none⟩) N c1) (.slice A4 (D + 1) c4) (scQ Lf v k) (P ++ [v]))) (fun _ j _ => N - (intOf j).toNat)
 case atStart => exact ⟨0, Nat.zero_le _, rfl, hT5, hst5⟩
 case round =>
  obtain ⟨k, hk, rfl, hB, hst⟩ := hrel
  by_cases hkm : k < N
  ·obtain ⟨hcb, hfb⟩ := hst.out.left.num (k := k) (by rw [hscl.out]; exact hkm)
   rw [hscg.out v k hkm] at hcb
   have hup := hst.out.put k (Lf.getD k 0 * v % 65521)
   rw [hscs.out v k] at hup
   replace hup := Lib.hid hup
   have hB6 := Lib.hid (hB.out.setCell (p := ⟨g1, k, none⟩) hg1 (.int .i64 (Lf.getD k 0 * v % 65521)))
   have hv1 := hLb.out k
   have ⟨p1, p2⟩ := mul_bd hv1.1 hv1.2 hvb.1 hvb.2
   generalize Lf.getD k 0 = lk at *
   have k1 : (k : Int) < (N : Int) := by omega
   have k0 : (0 : Int) ≤ (k : Int) := by omega
   clear hB hst
   go_wp2
   go_roundw
   case rel => exact ⟨k + 1, by omega, by go_num, hB6, hup⟩
   case measure => simp [intOf]; omega
  ·obtain rfl : N = k := by omega
   have hG := Lib.hid ((hS.out.kept (Below.mono hB.out (Nat.le_refl _))).g)
   rw [hD.out] at hG
   have hF0 := Lib.hid (fun k (h : spanF p L R M rs ms k) => hS.out.g.ge h)
   have hgw : w.heap.size ≤ g1 ∧ g1 < wr.heap.size := World.ownsRow.lt hst.out.left g1 rfl
   have hmw := Lib.hid (fun k h => World.ownsRow.lt hst.out.made k h)
   have hnem := Lib.hid hst.out.ne
   obtain ⟨AL, cL, rfl⟩ := own_form hG.out.leads
   have hbx := hG.out.box
   have hbw : base ≤ wr.heap.size := by have := (hF0.out p (.inl rfl)).1; have := lt_of_block hG.out.box; omega
   have hT := Lib.hid hB.out
   clear hS hB
   go_wp2
   refine D_begin (fun _ => True) (fun w' => w'.heap[p]? = some (.cells #[.slice AL D cL, R, M] 100 (0, 0))) 16 (by kernel_rfl) ?_
   change wpAnyD _ _ _ _ _ _ _ _ _ _ wr.drew
   simp only [List.size_toArray, List.length_cons, List.length_nil, Nat.reduceAdd, Array.replicate_succ, Array.replicate_zero, List.push_toArray, List.append_toArray, List.nil_append, List.cons_append]
   have hD3 : Below wr.heap.size wr wr.drew := (Below.refl _ _).drew
   replace hG := Lib.hid (hG.out.kept hD3)
   replace hbx := heap_keep hbx hD3
   replace hst := Lib.hid (hst.out.below hD3)
   replace hT := Lib.hid (Below.then_ hT.out hD3)
   have z_D3 := hD3.size; clear hD3
   generalize wr.drew = D3 at *
   refine Dt 0 rfl ?_ trivial (fun _ => (by first | exact hp2 | exact hbx)) ?_ ?_
   rotate_left; · intro w1 hw1; go_simp; try with_reducible rfl
   try simp only [Act.put, s_1, s_2, s_3, s_4, s_5, s_6]
   refine Dt 1 rfl ?_ trivial (fun _ => (by first | exact hp2 | exact hbx)) ?_ ?_
   rotate_left; · intro w1 hw1; go_simp; try with_reducible rfl
   try simp only [Act.put, s_1, s_2, s_3, s_4, s_5, s_6]
   refine Dt 5 rfl ?_ trivial (fun _ => (by first | exact hp2 | exact hbx)) ?_ ?_
   rotate_left; · intro w1 hw1; go_simp; try with_reducible rfl
   try simp only [Act.put, s_1, s_2, s_3, s_4, s_5, s_6]
   refine Dt 10 rfl ?_ trivial (fun _ => (by first | exact hp2 | exact hbx)) ?_ ?_
   rotate_left; · intro w1 hw1; go_simp; try with_reducible rfl
   try simp only [Act.put, s_1, s_2, s_3, s_4, s_5, s_6]
   refine Dt 2 rfl ?_ trivial (fun _ => (by first | exact hp2 | exact hbx)) ?_ ?_
   rotate_left; · intro w1 hw1; go_simp; try with_reducible rfl
   try simp only [Act.put, s_1, s_2, s_3, s_4, s_5, s_6]
   refine Dt 6 rfl ?_ trivial (fun _ => (by first | exact hp2 | exact hbx)) ?_ ?_
   rotate_left; · intro w1 hw1; go_simp; try with_reducible rfl
   try simp only [Act.put, s_1, s_2, s_3, s_4, s_5, s_6]
   refine Dt 3 rfl ?_ trivial (fun _ => (by first | exact hp2 | exact hbx)) ?_ ?_
   rotate_left; · intro w1 hw1; go_simp; try with_reducible rfl
   try simp only [Act.put, s_1, s_2, s_3, s_4, s_5, s_6]
   refine Dt 7 rfl ?_ trivial (fun _ => (by first | exact hp2 | exact hbx)) ?_ ?_
   rotate_left; · intro w1 hw1; go_simp; try with_reducible rfl
   try simp only [Act.put, s_1, s_2, s_3, s_4, s_5, s_6]
   refine D_load (i := 4) (v := ?_) rfl (by kernel_rfl) (by kernel_rfl) (by kernel_rfl) (by kernel_rfl) (by kernel_rfl) rfl (fun _ _ _ h => h) (Or.inl ⟨by rfl, ?_⟩) trivial (by first | exact hp2 | exact hbx) ?_
   rotate_left; · intro w1 hw1; obtain ⟨q0, q1, q2⟩ := cells3 hw1.2; go_simp; try with_reducible rfl
   try simp only [Act.put, s_1, s_2, s_3, s_4, s_5, s_6]
   refine D_load (i := 8) (v := ?_) rfl (by kernel_rfl) (by kernel_rfl) (by kernel_rfl) (by kernel_rfl) (by kernel_rfl) rfl (fun _ _ _ h => h) (Or.inl ⟨by rfl, ?_⟩) trivial (by first | exact hp2 | exact hbx) ?_
   rotate_left; · intro w1 hw1; obtain ⟨q0, q1, q2⟩ := cells3 hw1.2; go_simp; try with_reducible rfl
   try simp only [Act.put, s_1, s_2, s_3, s_4, s_5, s_6]
   refine Dt 9 rfl ?_ trivial (fun _ => (by first | exact hp2 | exact hbx)) ?_ ?_
   rotate_left; · intro w1 hw1; go_simp; try with_reducible rfl
   try simp only [Act.put, s_1, s_2, s_3, s_4, s_5, s_6]
   refine Dt 11 rfl ?_ trivial (fun _ => (by first | exact hp2 | exact hbx)) ?_ ?_
   rotate_left; · intro w1 hw1; go_simp; try with_reducible rfl
   try simp only [Act.put, s_1, s_2, s_3, s_4, s_5, s_6]
   refine D_one (i := 12) (by kernel_rfl) rfl ?_
   intro K hK
   rw [if_pos (by rfl)]
   go_simp
   have hE1 : Below D3.heap.size D3 (D3.alloc (.cells #[.int .i64 (D : Nat), .int .i64 (i : Nat)] 144)) := (Below.refl _ _).alloc (Nat.le_refl _) _
   replace hG := Lib.hid (hG.out.kept hE1)
   replace hbx := heap_keep hbx hE1
   replace hst := Lib.hid (hst.out.below hE1)
   replace hT := Lib.hid (Below.then_ hT.out hE1)
   have n12 : Hid (∀ j u, [.int .i64 (D : Nat), .int .i64 (i : Nat)][j]? = some u → (D3.alloc (.cells #[.int .i64 (D : Nat), .int .i64 (i : Nat)] 144)).cell? ((⟨D3.heap.size, 0, none⟩ : Addr).add j) = some u) := Lib.hid (news_new _ _ _)
   have z_1 : D3.heap.size < (D3.alloc (.cells #[.int .i64 (D : Nat), .int .i64 (i : Nat)] 144)).heap.size := by simp
   clear hE1
   refine hK _ _ trivial (fun _ _ => (by first | exact hp2 | exact hbx)) ?_
   clear hK K
   try simp only [Act.put, s_1, s_2, s_3, s_4, s_5, s_6]
   generalize (D3.alloc (.cells #[.int .i64 (D : Nat), .int .i64 (i : Nat)] 144)) = D3_1 at *
   refine D_one (i := 13) (by kernel_rfl) rfl ?_
   intro K hK
   refine step_app1 (by rfl) _ _ 98 (by rfl) 144 iL _ 2 16 Tryd.underlying98 hiL hL0 hL1 hL2 (by rfl) (by omega) (by omega) base (.slice AL D cL) D (leadC 0 s) (by rfl) hG.out.leads ⟨_, 0, none⟩ [.int .i64 (D : Nat), .int .i64 (i : Nat)] (by rfl) rfl n12.out (by simp [Value.oneCell']) (by omega) (by omega) ?_
   intro AL' cL' w2 hown2 hgrow2 hat2
   have hVz : wr.heap.size ≤ D3_1.heap.size := by omega
   have hp2 := (hgrow2.block p (lt_of_block hG.out.box) (fun e => own_box_ne hG.out.leads hG.out.box (by decide) e.symm)).trans hG.out.box
   have hfin := hG.out.add_lead (Below.refl _ _) hown2 hgrow2 hat2
   clear hown2 hgrow2 hat2
   replace hfin := Lib.hid hfin
   obtain ⟨f0, f1, f2⟩ := frozen3 hp2
   obtain ⟨q0, q1, q2⟩ := cells3 hp2
   refine hK _ _ trivial (fun _ _ => (by first | exact hp2 | exact hbx)) ?_
   clear hK K
   try simp only [Act.put, s_1, s_2, s_3, s_4, s_5, s_6]
   refine Dt 14 rfl ?_ trivial (fun _ => (by first | exact hp2 | exact hbx)) ?_ ?_
   rotate_left; · intro w1 hw1; go_simp; try with_reducible rfl
   try simp only [Act.put, s_1, s_2, s_3, s_4, s_5, s_6]
   refine Dt 15 rfl ?_ trivial (fun _ => (by first | exact hp2 | exact hbx)) ?_ ?_
   rotate_left; · intro w1 hw1; go_simp; try with_reducible rfl
   try simp only [Act.put, s_1, s_2, s_3, s_4, s_5, s_6]
   refine D_one (i := 16) (by kernel_rfl) rfl ?_
   intro K hK
   rw [if_pos (by rfl)]
   go_simp
   refine hK _ _ trivial (fun h _ => absurd rfl h) ?_
   clear hK K
   try simp only [Act.put, s_1, s_2, s_3, s_4, s_5, s_6]
   refine D_done (by kernel_rfl) ?_ _
   generalize w2.setCell ⟨p, 0, none⟩ (.slice AL' (D + 1) cL') = Z1 at *
   obtain ⟨hG1, hFr1, hFp1⟩ := hfin.out
   have hst1 := Lib.hid (hst.out.frame hFr1 (fun k h => (hF0.out k h).2))
   have hW1 := Lib.hid ((Frame.of_below (F := spanF p (.slice AL D cL) R M rs ms) hT.out).trans hFr1 (fun k h => .inl h))
   have hZ1 := hFr1.size
   have hF1 := Lib.hid (fun k (h : spanF p (.slice AL' (D + 1) cL') R M rs ms k) => (hFp1 k h).imp id (fun h2 => Nat.le_trans hVz h2))
   clear hfin hFr1 hFp1 hst hG hT hbx hp2 f0 f1 f2 q0 q1 q2
   obtain ⟨q0, q1, q2⟩ := cells3 hG1.box
   have hRl : (s.map fun q => q.2.1).length = D := by rw [List.length_map]; exact hD.out
   have hMl : (s.map fun q => q.2.2).length = D := by rw [List.length_map]; exact hD.out
   have hal1 : Below Z1.heap.size Z1 (Z1.alloc (.cells #[.slice (some ⟨g1, 0, none⟩) N c1] 22)) := (Below.refl _ _).alloc (Nat.le_refl _) _
   have hor := Lib.hid (own_below (by have := hG1.red.outer; rw [hRl] at this; exact this) hal1)
   replace hG1 := Lib.hid hG1
   replace hRl := Lib.hid hRl
   replace hMl := Lib.hid hMl
   have hbZ : base ≤ w.heap.size := by have := (hF0.out p (.inl rfl)); omega
   have hnL : Hid (∀ k, (Value.slice (some ⟨g1, 0, none⟩) N c1).ownBlock = some k → ¬ spanF p (.slice AL' (D + 1) cL') R M rs ms k) := Lib.hid (fun k hk h => by
    cases hk
    rcases hF1.out g1 h with h | h
    ·have := (hF0.out g1 h).2; omega
    ·omega)
   have hadd := Lib.hid (fun (w3 : World) (A5 : Option Addr) (c5 : Nat) (hown3 : w3.ownsRow base 22 1 (.slice A5 (D + 1) c5) (D + 1) (rs ++ [.slice (some ⟨g1, 0, none⟩) N c1])) (hgrow3 : (Z1.alloc (.cells #[.slice (some ⟨g1, 0, none⟩) N c1] 22)).grownBy w3 R.ownBlock) (hat3 : (Value.slice A5 (D + 1) c5).ownBlock = R.ownBlock ∨ (Value.slice A5 (D + 1) c5).ownBlock = some (Z1.alloc (.cells #[.slice (some ⟨g1, 0, none⟩) N c1] 22)).heap.size) =>
    And.intro ((hgrow3.block p (lt_of_block (heap_keep hG1.out.box hal1)) (fun e => hG1.out.row_box_ne R (by simp) e.symm)).trans (heap_keep hG1.out.box hal1)) (hG1.out.add_red hal1 (hst1.out.left.base hbZ) hnL.out (by rw [hRl.out]; exact hown3) hgrow3 hat3))
   go_upto_region 14 with (at_builtin; (refine wpList_app1 rfl _ _ 59 rfl 22 iR _ 1 24 Tryd.underlying59 hiR hR0 hR1 hR2 rfl (by omega) (by omega) base R D rs rfl hor.out ⟨Z1.heap.size, 0, none⟩ [.slice (some ⟨g1, 0, none⟩) N c1] rfl rfl (news_new Z1 [.slice (some ⟨g1, 0, none⟩) N c1] _) (by simp [Value.oneCell']) (by omega) (by simp; omega) ?_); intro A5 c5 w3 hown3 hgrow3 hat3; have hfin := hadd.out w3 A5 c5 hown3 hgrow3 hat3; clear hown3 hgrow3 hat3 hor hadd; obtain ⟨hp3, hfin⟩ := hfin; obtain ⟨f0, f1, f2⟩ := frozen3 hp3; obtain ⟨q0, q1, q2⟩ := cells3 hp3; replace hfin := Lib.hid hfin)
   obtain ⟨hG2, hFr2, hFp2⟩ := hfin.out
   clear hfin q0 q1 q2 f0 f1 f2 hp3
   generalize w3.setCell ⟨p, 1, none⟩ (.slice A5 (D + 1) c5) = Z2 at *
   obtain ⟨q0, q1, q2⟩ := cells3 hG2.box
   have hal2 : Below Z2.heap.size Z2 (Z2.alloc (.cells #[.slice A4 (D + 1) c4] 22)) := (Below.refl _ _).alloc (Nat.le_refl _) _
   have hom := Lib.hid (own_below (by have := hG2.made.outer; rw [hMl.out] at this; exact this) hal2)
   have hZ2 := hFr2.size
   have hF2 := Lib.hid (fun k (h : spanF p (.slice AL' (D + 1) cL') (.slice A5 (D + 1) c5) M (rs ++ [.slice (some ⟨g1, 0, none⟩) N c1]) ms k) => hFp2 k h)
   have hM2 := hFr2.owns hst1.out.made (fun k hk h => by
    have h1 := hmw.out k hk
    rcases hF1.out k h with h | h
    ·have := (hF0.out k h).2; omega
    ·omega)
   have hnM : ∀ k, (Value.slice A4 (D + 1) c4).ownBlock = some k → ¬ spanF p (.slice AL' (D + 1) cL') (.slice A5 (D + 1) c5) M (rs ++ [.slice (some ⟨g1, 0, none⟩) N c1]) ms k := fun k hk h => by
    have h1 := hmw.out k hk
    rcases hF2.out k h with h | h | h
    ·rcases hF1.out k h with h | h
     ·have := (hF0.out k h).2; omega
     ·omega
    ·omega
    ·rcases hnem.out with e | e
     ·rw [e] at h; cases h
     ·exact e (by rw [h, hk])
   have hadd := Lib.hid (fun (w4 : World) (A6 : Option Addr) (c6 : Nat) (hown4 : w4.ownsRow base 22 1 (.slice A6 (D + 1) c6) (D + 1) (ms ++ [.slice A4 (D + 1) c4])) (hgrow4 : (Z2.alloc (.cells #[.slice A4 (D + 1) c4] 22)).grownBy w4 M.ownBlock) (hat4 : (Value.slice A6 (D + 1) c6).ownBlock = M.ownBlock ∨ (Value.slice A6 (D + 1) c6).ownBlock = some (Z2.alloc (.cells #[.slice A4 (D + 1) c4] 22)).heap.size) =>
    And.intro ((hgrow4.block p (lt_of_block (heap_keep hG2.box hal2)) (fun e => hG2.row_box_ne M (by simp) e.symm)).trans (heap_keep hG2.box hal2)) (hG2.add_made hal2 (OwnI.base hM2 hbZ) hnM (by rw [hMl.out]; exact hown4) hgrow4 hat4))
   have hW2 := Lib.hid (hW1.out.trans hFr2 (fun k h => by rcases hF1.out k h with h | h; exact .inl h; exact .inr (by omega)))
   replace hG2 := Lib.hid hG2
   replace hFr2 := Lib.hid hFr2
   clear hFp2 hM2 hnM
   go_wp2_with (at_builtin; (refine wpList_app1 rfl _ _ 59 rfl 22 iR _ 1 24 Tryd.underlying59 hiR hR0 hR1 hR2 rfl (by omega) (by omega) base M D ms rfl hom.out ⟨Z2.heap.size, 0, none⟩ [.slice A4 (D + 1) c4] rfl rfl (news_new Z2 [.slice A4 (D + 1) c4] _) (by simp [Value.oneCell']) (by omega) (by simp; omega) ?_); intro A6 c6 w4 hown4 hgrow4 hat4; have hfin := hadd.out w4 A6 c6 hown4 hgrow4 hat4; clear hown4 hgrow4 hat4 hom hadd; obtain ⟨hp4, hfin⟩ := hfin; obtain ⟨f0, f1, f2⟩ := frozen3 hp4; obtain ⟨q0, q1, q2⟩ := cells3 hp4; replace hfin := Lib.hid hfin)
   go_ret
   obtain ⟨hG3, hFr3, hFp3⟩ := hfin.out
   refine ⟨rfl, _, _, _, _, _, (by rw [hsce.out] at hG3; exact hG3.snoc hD.out), hW2.out.trans hFr3 (fun k h => ?_), fun k h => ?_⟩
   ·rcases hF2.out k h with h | h | h
    ·rcases hF1.out k h with h | h
     ·exact .inl h
     ·exact .inr (by omega)
    ·exact .inr (by omega)
    ·cases h; exact .inr (by omega)
   ·rcases hFp3 k h with h | h | h
    ·rcases hF2.out k h with h | h | h
     ·rcases hF1.out k h with h | h
      ·exact .inl h
      ·exact .inr (by omega)
     ·exact .inr (by omega)
     ·cases h; exact .inr (by omega)
    ·exact .inr (by omega)
    ·exact .inr (hmw.out k h).1
end Go.Proofs.YtlpldfocljnpnaaDoor
namespace Go.Proofs.YtlpldfocljnpnaaDoor
open Go.RowKit Go.Shelf
theorem SpShape.start (N : Nat) : SpShape [] N := ⟨by simp, fun q hq => by cases hq⟩
theorem SpShape.add {s s' : SpL} {N : Nat} {row : List Int} (h : SpShape s N) (hr : row.length = N) (e : addSp s row = some s') (hl : s'.length ≤ 1000) : SpShape s' N := by
 obtain ⟨i, hf, rfl⟩ := addSp_some e
 obtain ⟨h1, h2⟩ := splitL_lens s row (List.replicate s.length 0)
 have hi := (firstN_lt hf).1
 refine ⟨hl, fun q hq => ?_⟩
 rw [List.length_append, List.length_singleton]
 rcases List.mem_append.1 hq with hq | hq
 ·obtain ⟨a1, a2, a3, a4, a5⟩ := h.rows q hq
  exact ⟨a1, a2, by omega, a4, a5⟩
 ·rw [List.mem_singleton.1 hq]
  refine ⟨by rw [← hr, ← h1]; exact hi, by simp only [List.length_map]; rw [h1, hr], ?_, fun u hu => ?_, fun u hu => ?_⟩
  ·show (plusL _ _ _ ++ [_]).length ≤ _
   rw [List.length_append, plusL_len, h2, List.length_replicate, List.length_singleton]; exact Nat.le_refl _
  ·obtain ⟨x, _, rfl⟩ := List.mem_map.1 hu
   exact ⟨Int.emod_nonneg _ (by decide), Int.emod_lt_of_pos _ (by decide)⟩
  ·rcases List.mem_append.1 hu with hu | hu
   ·exact plusL_bd _ _ _ u hu
   ·rw [List.mem_singleton.1 hu]; exact invN_bd _
structure ColAcc (B : Nat) (w : World) (o : Value) (cs : List Value) (out : List (List Int)) (O : Nat → Prop) : Prop where
 own : w.ownsRow B 22 1 o out.length cs
 rows : ∀ (j : Nat) (r : List Int) (u : Value), out[j]? = some r → cs[j]? = some u → RdIo (fun k => O k ∧ o.ownBlock ≠ some k) w u r
 ob : ∀ k, o.ownBlock = some k → O k
namespace ColAcc
variable {B : Nat} {w w' w1 : World} {o o' : Value} {cs : List Value} {out : List (List Int)} {O O' F : Nat → Prop}
theorem start (w : World) (B : Nat) (O : Nat → Prop) : ColAcc B w (.slice none 0 0) [] [] O := ⟨World.ownsRow_nil _ _ _ _, fun j r u hr => by simp at hr, fun k hk => by cases hk⟩
theorem frame (h : ColAcc B w o cs out O) (hf : Frame F w w') (hn : ∀ k, k < w.heap.size → O k → ¬ F k ∧ O' k) : ColAcc B w' o cs out O' :=
 ⟨hf.owns h.own (fun k hk => (hn k (h.own.lt k hk).2 (h.ob k hk)).1), fun j r u hr hu => (h.rows j r u hr hu).keep hf (fun k hk ho => ⟨(hn k hk ho.1).1, (hn k hk ho.1).2, ho.2⟩), fun k hk => (hn k (h.own.lt k hk).2 (h.ob k hk)).2⟩
theorem kept (h : ColAcc B w o cs out O) (hb : Below w.heap.size w w') : ColAcc B w' o cs out O := h.frame (F := fun _ => False) (Frame.of_below hb) fun _ _ ho => ⟨fun h => h, ho⟩
theorem snoc (h : ColAcc B w o cs out O) (ha : Below w.heap.size w w1) {u : Value} {r : List Int} (hu : RdIo (fun k => O k ∧ o.ownBlock ≠ some k) w u r) (ho : w'.ownsRow B 22 1 o' (out.length + 1) (cs ++ [u])) (hg : w1.grownBy w' o.ownBlock)
  (hat : o'.ownBlock = o.ownBlock ∨ o'.ownBlock = some w1.heap.size) (hO : ∀ k, w.heap.size ≤ k → O k) : ColAcc B w' o' (cs ++ [u]) (out ++ [r]) O ∧ Frame (fun k => o.ownBlock = some k) w w' := by
 have hf : Frame (fun k => o.ownBlock = some k) w w' := (Frame.of_below ha).trans (F' := fun k => o.ownBlock = some k) (Frame.grown hg (fun k e => e)) (fun k h => .inl h)
 have hl : cs.length = out.length := by have := h.own.1; omega
 have hne : ∀ k, k < w.heap.size → O k ∧ o.ownBlock ≠ some k → ¬ (o.ownBlock = some k) ∧ (O k ∧ o'.ownBlock ≠ some k) := fun k hk ho => ⟨ho.2, ho.1, fun e => by
  rcases hat with e2 | e2
  ·exact ho.2 (by rw [← e2]; exact e)
  ·rw [e2] at e; cases e; have := ha.size; omega⟩
 refine ⟨⟨by rw [List.length_append]; exact ho, fun j s x hs hx => ?_, fun k hk => ?_⟩, hf⟩
 ·by_cases hj : j < out.length
  ·rw [List.getElem?_append_left hj] at hs
   rw [List.getElem?_append_left (by omega)] at hx
   exact (h.rows j s x hs hx).keep hf hne
  ·have hj2 : j = out.length := by have := (List.getElem?_eq_some_iff.1 hs).1; simp at this; omega
   subst hj2
   rw [List.getElem?_append_right (Nat.le_refl _), Nat.sub_self] at hs
   rw [List.getElem?_append_right (by omega), hl, Nat.sub_self] at hx
   cases hs; cases hx
   exact hu.keep hf hne
 ·rcases hat with e | e
  ·exact h.ob k (by rw [← e]; exact hk)
  ·rw [e] at hk; cases hk; exact hO _ ha.size
theorem get (h : ColAcc B w o cs out O) {j : Nat} (hj : j < out.length) : ∃ g c u, o = .slice (some ⟨g, 0, none⟩) out.length c ∧ B ≤ g ∧ g < w.heap.size ∧ w.cell? ⟨g, j, none⟩ = some u ∧ RdI w u (out.getD j []) := by
 obtain ⟨g, c, rfl, h1, h2⟩ := h.own.form (by omega)
 have hl : cs.length = out.length := by have := h.own.1; omega
 have hu : cs[j]? = some cs[j] := List.getElem?_eq_getElem (by omega)
 exact ⟨g, c, cs[j], rfl, h1, h2, by rw [h.own.cellAt j (by omega)]; exact hu, (h.rows j _ _ (by rw [List.getD_eq_getElem?_getD, List.getElem?_eq_getElem hj]; rfl) hu).rd⟩
theorem rd (h : ColAcc B w o cs out O) (hn : out.length ≤ 1000000) : RdM w o out := by
 have hl : cs.length = out.length := by have := h.own.1; omega
 exact ⟨cs, own_RdV h.own (by omega), hl, fun j r u hr hu => (h.rows j r u hr hu).rd⟩
end ColAcc
def colQ (a : Aut) (out : List (List Int)) (i x : Nat) : List (List Int) := ((a.steps.drop x).map fun m => backL m (out.getD i [])) ++ (out.drop (i + 1)).flatMap (kidsC a)
theorem colQ_first (a : Aut) (out : List (List Int)) {i : Nat} (hi : i < out.length) : (out.drop i).flatMap (kidsC a) = colQ a out i 0 := by
 rw [colQ, List.drop_eq_getElem_cons hi, List.flatMap_cons, List.drop_zero, List.getD_eq_getElem?_getD, List.getElem?_eq_getElem hi]; rfl
theorem colQ_cons (a : Aut) (out : List (List Int)) (i : Nat) {x : Nat} (hx : x < a.steps.length) : colQ a out i x = backL (a.steps.getD x []) (out.getD i []) :: colQ a out i (x + 1) := by
 rw [colQ, colQ, List.drop_eq_getElem_cons hx, List.map_cons, List.cons_append, List.getD_eq_getElem?_getD (l := a.steps), List.getElem?_eq_getElem hx]; rfl
theorem colQ_end (a : Aut) (out : List (List Int)) (i : Nat) {x : Nat} (hx : a.steps.length ≤ x) : colQ a out i x = (out.drop (i + 1)).flatMap (kidsC a) := by
 rw [colQ, List.drop_eq_nil_of_le hx]; rfl
theorem colQ_snoc (a : Aut) (out : List (List Int)) {i : Nat} (x : Nat) (c : List Int) (hi : i < out.length) : colQ a (out ++ [c]) i x = colQ a out i x ++ kidsC a c := by
 rw [colQ, colQ, List.getD_eq_getElem?_getD, List.getElem?_append_left hi, ← List.getD_eq_getElem?_getD, List.drop_append_of_le_length (by omega), List.flatMap_append, List.append_assoc]
 congr 2
 simp
structure ColsMid (n B p : Nat) (w : World) (o : Value) (cs : List Value) (ch out : List (List Int)) (T : Nat → Prop) : Prop where
 ex : ∃ s L R M rs ms, SpanO w B p L R M rs ms s ∧ SpInv ch s n ∧ SpShape s n ∧ ColAcc B w o cs out (fun k => ¬ spanF p L R M rs ms k) ∧ ∀ k, T k ↔ spanF p L R M rs ms k ∨ o.ownBlock = some k
namespace ColsMid
variable {n B p : Nat} {w w' w1 : World} {o o' : Value} {cs : List Value} {ch out : List (List Int)} {T : Nat → Prop}
theorem kept (h : ColsMid n B p w o cs ch out T) (hb : Below w.heap.size w w') : ColsMid n B p w' o cs ch out T := by
 obtain ⟨s, L, R, M, rs, ms, h1, h2, h3, h4, h5⟩ := h.ex
 exact ⟨s, L, R, M, rs, ms, h1.kept hb, h2, h3, h4.kept hb, h5⟩
theorem lt (h : ColsMid n B p w o cs ch out T) {k : Nat} (hk : T k) : B ≤ k ∧ k < w.heap.size := by
 obtain ⟨s, L, R, M, rs, ms, h1, h2, h3, h4, h5⟩ := h.ex
 rcases (h5 k).1 hk with h | h
 ·exact h1.ge h
 ·exact h4.own.lt k h
theorem own (h : ColsMid n B p w o cs ch out T) : w.ownsRow B 22 1 o out.length cs := by
 obtain ⟨s, L, R, M, rs, ms, h1, h2, h3, h4, h5⟩ := h.ex
 exact h4.own
theorem get (h : ColsMid n B p w o cs ch out T) {j : Nat} (hj : j < out.length) : ∃ g c u, o = .slice (some ⟨g, 0, none⟩) out.length c ∧ B ≤ g ∧ g < w.heap.size ∧ w.cell? ⟨g, j, none⟩ = some u ∧ RdI w u (out.getD j []) := by
 obtain ⟨s, L, R, M, rs, ms, h1, h2, h3, h4, h5⟩ := h.ex
 exact h4.get hj
theorem rd (h : ColsMid n B p w o cs ch out T) (hn : out.length ≤ 1000000) : RdM w o out := by
 obtain ⟨s, L, R, M, rs, ms, h1, h2, h3, h4, h5⟩ := h.ex
 exact h4.rd hn
theorem inv (h : ColsMid n B p w o cs ch out T) : ∃ s, SpInv ch s n := by
 obtain ⟨s, L, R, M, rs, ms, h1, h2, h3, h4, h5⟩ := h.ex
 exact ⟨s, h2⟩
theorem snoc (h : ColsMid n B p w o cs ch out T) (ha : Below w.heap.size w w1) {u : Value} {r : List Int} (hu : RdIo (fun k => ¬ T k) w u r) (ho : w'.ownsRow B 22 1 o' (out.length + 1) (cs ++ [u])) (hg : w1.grownBy w' o.ownBlock)
  (hat : o'.ownBlock = o.ownBlock ∨ o'.ownBlock = some w1.heap.size) : (∃ T', ColsMid n B p w' o' (cs ++ [u]) ch (out ++ [r]) T') ∧ Frame T w w' := by
 obtain ⟨s, L, R, M, rs, ms, h1, h2, h3, h4, h5⟩ := h.ex
 obtain ⟨h6, h7⟩ := h4.snoc ha (hu.keep (Frame.refl (fun _ => False) w) (fun k hk hT => ⟨fun h => h, fun h => hT ((h5 k).2 (.inl h)), fun h => hT ((h5 k).2 (.inr h))⟩)) ho hg hat (fun k hk h => by have := (h1.ge h).2; omega)
 exact ⟨⟨_, s, L, R, M, rs, ms, h1.frame h7 (fun k hk e => h4.ob k e hk), h2, h3, h6, fun k => Iff.rfl⟩, h7.mono fun k hk => (h5 k).2 (.inr hk)⟩
end ColsMid
theorem col_no {n B p : Nat} {w : World} {o : Value} {cs : List Value} {out : List (List Int)} {T : Nat → Prop} (h : ColsMid n B p w o cs out out T) (hN : n ≤ 1000) (row : List Int) (vr : Value) (rr : RdI w vr row) (hr : row.length = n) (hb : ∀ u ∈ row, 0 ≤ u ∧ u < 65521) (hno : newC out row = false) :
  Calls Tryd.prog 120 #[.pointer (some ⟨p, 0, none⟩), vr] w fun e w' => e = .returned (.bool false) ∧ Below w.heap.size w w' := by
 obtain ⟨s, L, R, M, rs, ms, h1, h2, h3, h4, h5⟩ := h.ex
 have ha := h2.add_new hr hb
 have hn : addSp s row = none := by
  cases e : addSp s row with
  | none => rfl
  | some _ => rw [e] at ha; unfold newC at hno; rw [hno] at ha; cases ha
 exact add_no s n h3 hN p row vr w (h1.rd (by have := h3.len; omega) (fun q hq => ⟨by rw [(h3.rows q hq).2.1]; omega, by have := (h3.rows q hq).2.2.1; have := h3.len; omega⟩)) rr hr hb hn
theorem col_yes {n B p : Nat} {w : World} {o : Value} {cs : List Value} {out : List (List Int)} {T : Nat → Prop} (h : ColsMid n B p w o cs out out T) (hN : n ≤ 999) (row : List Int) (vr : Value) (hv : RdIo (fun k => ¬ T k) w vr row) (hr : row.length = n) (hb : ∀ u ∈ row, 0 ≤ u ∧ u < 65521) (hyes : newC out row = true) :
  Calls Tryd.prog 120 #[.pointer (some ⟨p, 0, none⟩), vr] w fun e w' => e = .returned (.bool true) ∧ (∃ T', ColsMid n B p w' o cs (out ++ [row]) out T' ∧ RdIo (fun k => ¬ T' k) w' vr row) ∧ Frame T w w' := by
 obtain ⟨s, L, R, M, rs, ms, h1, h2, h3, h4, h5⟩ := h.ex
 have ha := h2.add_new hr hb
 obtain ⟨s', hs'⟩ : ∃ s', addSp s row = some s' := by
  cases e : addSp s row with
  | none => rw [e] at ha; unfold newC at hyes; rw [hyes] at ha; cases ha
  | some s' => exact ⟨s', rfl⟩
 have h6 := (h2.add_some hr hb hs').2
 have hle := h6.le
 have hle2 := h2.le
 have hl6 := h6.len
 have hl2 := h2.len
 refine (add_yes s s' n h3 (by omega) (by omega) B p L R M rs ms row vr w h1 hv.rd hr hb hs').mono ?_
 rintro e w' ⟨rfl, L', R', M', rs', ms', g1, g2, g3⟩
 have hF : ∀ k, k < w.heap.size → ¬ spanF p L R M rs ms k → ¬ spanF p L R M rs ms k ∧ ¬ spanF p L' R' M' rs' ms' k := fun k hk hn => ⟨hn, fun h => by
  rcases g3 k h with h | h
  ·exact hn h
  ·omega⟩
 refine ⟨rfl, ⟨fun k => spanF p L' R' M' rs' ms' k ∨ o.ownBlock = some k, ⟨s', L', R', M', rs', ms', g1, h6, h3.add hr hs' (by omega), h4.frame g2 hF, fun k => Iff.rfl⟩, hv.keep g2 (fun k hk hT => ?_)⟩, g2.mono fun k hk => (h5 k).2 (.inl hk)⟩
 have h7 : ¬ spanF p L R M rs ms k := fun h => hT ((h5 k).2 (.inl h))
 refine ⟨h7, fun h => ?_⟩
 rcases h with h | h
 ·exact (hF k hk h7).2 h
 ·exact hT ((h5 k).2 (.inr h))
structure ColAdd (n B p : Nat) (X w' : World) (o : Value) (cs : List Value) (out : List (List Int)) (row : List Int) (vr : Value) : Prop where
 no : newC out row = false → ∃ T, ColsMid n B p w' o cs out out T
 yes : newC out row = true → ∃ T, ColsMid n B p w' o cs (out ++ [row]) out T ∧ RdIo (fun k => ¬ T k) w' vr row
 keep : Below B X w'
theorem col_add {n B p : Nat} {w X : World} {o : Value} {cs : List Value} {out : List (List Int)} {T : Nat → Prop} (h : ColsMid n B p w o cs out out T) (hN : n ≤ 999) (row : List Int) (vr : Value) (hv : RdIo (fun k => ¬ T k) w vr row) (hr : row.length = n) (hb : ∀ u ∈ row, 0 ≤ u ∧ u < 65521) (hX : Below B X w) (hB : B ≤ w.heap.size) :
  Calls Tryd.prog 120 #[.pointer (some ⟨p, 0, none⟩), vr] w fun e w' => e = .returned (.bool (newC out row)) ∧ ColAdd n B p X w' o cs out row vr := by
 cases hnw : newC out row with
 | false =>
  refine (col_no h (by omega) row vr hv.rd hr hb hnw).mono ?_
  rintro e w' ⟨rfl, hb'⟩
  exact ⟨rfl, ⟨fun _ => ⟨T, h.kept hb'⟩, (fun e => (by rw [hnw] at e; cases e)), hX.trans (hb'.mono hB)⟩⟩
 | true =>
  refine (col_yes h hN row vr hv hr hb hnw).mono ?_
  rintro e w' ⟨rfl, ⟨T', h1, h2⟩, h3⟩
  exact ⟨rfl, ⟨(fun e => (by rw [hnw] at e; cases e)), fun _ => ⟨T', h1, h2⟩, hX.trans (h3.below hB (fun k hk => (h.lt hk).1))⟩⟩
end Go.Proofs.YtlpldfocljnpnaaDoor
namespace Go.Proofs.YtlpldfocljnpnaaDoor
open Go.RowKit Go.Shelf
def RdC (a : Aut) (O : Nat → Prop) (w : World) (u : Value) (x : List Nat) : Prop := ∃ v, u = .agg #[.string (wordB x), v] ∧ RdIo O w v (rowW a x)
theorem RdC.keep {a : Aut} (O O' F : Nat → Prop) (A B : World) (u : Value) (x : List Nat) (h : RdC a O A u x) (hf : Frame F A B) (hn : ∀ k, k < A.heap.size → O k → ¬ F k ∧ O' k) : RdC a O' B u x := by
 obtain ⟨v, e, h1⟩ := h
 exact ⟨v, e, h1.keep hf hn⟩
def choC : List (List Nat × Value) → List Value
 | [] => []
 | p :: t => .string (wordB p.1) :: p.2 :: choC t
theorem choC_len : ∀ (l : List (List Nat × Value)), (choC l).length = l.length * 2
 | [] => rfl
 | p :: t => by rw [choC, List.length_cons, List.length_cons, choC_len t, List.length_cons]; omega
theorem choC_append : ∀ (l m : List (List Nat × Value)), choC (l ++ m) = choC l ++ choC m
 | [], m => rfl
 | p :: t, m => by rw [List.cons_append, choC, choC, choC_append t m]; rfl
def newQ (a : Aut) (seenF : List Int → List Int) (ws : List (List Nat)) (w : List Nat) : Bool := (madeL (ws.map fun u => seenF (rowW a u)) (seenF (rowW a w))).isNone
structure ChoSt (a : Aut) (seenF : List Int → List Int) (N B p : Nat) (w : World) (v : Value) (out : List (List Nat)) (todo : List (List Nat × Value)) (T O : Nat → Prop) : Prop where
 ex : ∃ s L R M rs ms, SpanO w B p L R M rs ms s ∧ SpInv (out.map fun u => seenF (rowW a u)) s N ∧ SpShape s N ∧ QRow w B 107 2 v todo.length (choC todo) ∧
  (∀ q ∈ todo, RdIo (fun k => O k ∧ ¬ T k) w q.2 (rowW a q.1)) ∧ (∀ k, v.ownBlock = some k → ¬ spanF p L R M rs ms k) ∧ ∀ k, T k ↔ spanF p L R M rs ms k ∨ v.ownBlock = some k
namespace ChoSt
variable {a : Aut} {seenF : List Int → List Int} {N B p : Nat} {w w' : World} {v : Value} {out : List (List Nat)} {todo : List (List Nat × Value)} {T O O' F : Nat → Prop}
theorem lt (h : ChoSt a seenF N B p w v out todo T O) {k : Nat} (hk : T k) : B ≤ k ∧ k < w.heap.size := by
 obtain ⟨s, L, R, M, rs, ms, h1, h2, h3, h4, h5, h6, h7⟩ := h.ex
 rcases (h7 k).1 hk with h | h
 ·exact h1.ge h
 ·exact h4.lt k h
theorem frame (h : ChoSt a seenF N B p w v out todo T O) (hf : Frame F w w') (hT : ∀ k, T k → ¬ F k) (hO : ∀ k, k < w.heap.size → O k → ¬ F k ∧ O' k) : ChoSt a seenF N B p w' v out todo T O' := by
 obtain ⟨s, L, R, M, rs, ms, h1, h2, h3, h4, h5, h6, h7⟩ := h.ex
 exact ⟨s, L, R, M, rs, ms, h1.frame hf (fun k hk => hT k ((h7 k).2 (.inl hk))), h2, h3, h4.frame hf (fun k hk => hT k ((h7 k).2 (.inr hk))), fun q hq => (h5 q hq).keep hf (fun k hk ho => ⟨(hO k hk ho.1).1, (hO k hk ho.1).2, ho.2⟩), h6, h7⟩
theorem kept (h : ChoSt a seenF N B p w v out todo T O) (hb : Below w.heap.size w w') : ChoSt a seenF N B p w' v out todo T O := h.frame (F := fun _ => False) (Frame.of_below hb) (fun _ _ h => h) fun _ _ ho => ⟨fun h => h, ho⟩
theorem queue (h : ChoSt a seenF N B p w v out todo T O) : QRow w B 107 2 v todo.length (choC todo) := by
 obtain ⟨s, L, R, M, rs, ms, h1, h2, h3, h4, h5, h6, h7⟩ := h.ex
 exact h4
theorem head (h : ChoSt a seenF N B p w v out todo T O) {q : List Nat × Value} (hq : q ∈ todo) : RdIo (fun k => O k ∧ ¬ T k) w q.2 (rowW a q.1) := by
 obtain ⟨s, L, R, M, rs, ms, h1, h2, h3, h4, h5, h6, h7⟩ := h.ex
 exact h5 q hq
theorem tail {q : List Nat × Value} {v' : Value} (h : ChoSt a seenF N B p w v out (q :: todo) T O) (hq : QRow w B 107 2 v' todo.length (choC todo)) (hv : v'.ownBlock = v.ownBlock) : ChoSt a seenF N B p w v' out todo T O := by
 obtain ⟨s, L, R, M, rs, ms, h1, h2, h3, h4, h5, h6, h7⟩ := h.ex
 exact ⟨s, L, R, M, rs, ms, h1, h2, h3, hq, fun x hx => h5 x (List.mem_cons_of_mem _ hx), fun k hk => h6 k (by rw [← hv]; exact hk), fun k => by rw [hv]; exact h7 k⟩
theorem snoc {q : List Nat × Value} {v' : Value} (h : ChoSt a seenF N B p w v out todo T O) (hq : QRow w' B 107 2 v' (todo.length + 1) (choC todo ++ [.string (wordB q.1), q.2])) (hg : w.grownBy w' v.ownBlock) (hv : ∀ k, v'.ownBlock = some k → v.ownBlock = some k ∨ w.heap.size ≤ k) (hr : RdIo (fun k => O k ∧ ¬ T k) w q.2 (rowW a q.1)) :
  ∃ T', ChoSt a seenF N B p w' v' out (todo ++ [q]) T' O ∧ Frame T w w' ∧ ∀ k, T' k → T k ∨ w.heap.size ≤ k := by
 obtain ⟨s, L, R, M, rs, ms, h1, h2, h3, h4, h5, h6, h7⟩ := h.ex
 have hf : Frame (fun k => v.ownBlock = some k) w w' := Frame.grown hg (fun k e => e)
 have hT : ∀ k, spanF p L R M rs ms k ∨ v'.ownBlock = some k → T k ∨ w.heap.size ≤ k := fun k hk => by
  rcases hk with h | h
  ·exact .inl ((h7 k).2 (.inl h))
  ·rcases hv k h with h | h
   ·exact .inl ((h7 k).2 (.inr h))
   ·exact .inr h
 have hk : ∀ x : List Nat × Value, RdIo (fun k => O k ∧ ¬ T k) w x.2 (rowW a x.1) → RdIo (fun k => O k ∧ ¬ (spanF p L R M rs ms k ∨ v'.ownBlock = some k)) w' x.2 (rowW a x.1) := fun x hx => hx.keep hf (fun k hk ho => ⟨fun e => ho.2 ((h7 k).2 (.inr e)), ho.1, fun e => by
  rcases hT k e with h | h
  ·exact ho.2 h
  ·omega⟩)
 refine ⟨fun k => spanF p L R M rs ms k ∨ v'.ownBlock = some k, ⟨s, L, R, M, rs, ms, h1.frame hf (fun k hk e => h6 k e hk), h2, h3, ?_, fun x hx => ?_, fun k hk hs => ?_, fun k => Iff.rfl⟩, hf.mono fun k hk => (h7 k).2 (.inr hk), hT⟩
 ·rw [List.length_append, choC_append]; exact hq
 ·rcases List.mem_append.1 hx with hx | hx
  ·exact hk x (h5 x hx)
  ·rw [List.mem_singleton.1 hx]; exact hk q hr
 ·rcases hv k hk with h | h
  ·exact h6 k h hs
  ·have := (h1.ge hs).2; omega
end ChoSt
theorem cho_add {a : Aut} {seenF : List Int → List Int} {N B p : Nat} {w : World} {v : Value} {out : List (List Nat)} {todo : List (List Nat × Value)} {T O : Nat → Prop} (h : ChoSt a seenF N B p w v out todo T O) (hN : N ≤ 999) (x : List Nat) (vr : Value) (rr : RdI w vr (seenF (rowW a x))) (hr : (seenF (rowW a x)).length = N) (hb : ∀ u ∈ seenF (rowW a x), 0 ≤ u ∧ u < 65521) :
  Calls Tryd.prog 120 #[.pointer (some ⟨p, 0, none⟩), vr] w fun e w' => e = .returned (.bool (newQ a seenF out x)) ∧ ∃ T', ChoSt a seenF N B p w' v (if newQ a seenF out x = true then out ++ [x] else out) todo T' O ∧ Frame T w w' ∧ ∀ k, T' k → T k ∨ w.heap.size ≤ k := by
 obtain ⟨s, L, R, M, rs, ms, h1, h2, h3, h4, h5, h6, h7⟩ := h.ex
 have ha := h2.add_new hr hb
 have hsl := h3.len
 cases hs : addSp s (seenF (rowW a x)) with
 | none =>
  rw [hs] at ha
  have hq : newQ a seenF out x = false := ha.symm
  rw [hq]
  refine (add_no s N h3 (by omega) p _ vr w (h1.rd (by omega) (fun q hq => ⟨by rw [(h3.rows q hq).2.1]; omega, by have := (h3.rows q hq).2.2.1; omega⟩)) rr hr hb hs).mono ?_
  rintro e w' ⟨rfl, hb'⟩
  exact ⟨rfl, T, h.kept hb', Frame.of_below hb', fun k hk => .inl hk⟩
 | some s' =>
  rw [hs] at ha
  have hq : newQ a seenF out x = true := ha.symm
  rw [hq]
  have h8 := (h2.add_some hr hb hs).2
  have hle := h8.le
  have hle2 := h2.le
  have hl6 := h8.len
  have hl2 := h2.len
  refine (add_yes s s' N h3 (by omega) (by omega) B p L R M rs ms _ vr w h1 rr hr hb hs).mono ?_
  rintro e w' ⟨rfl, L', R', M', rs', ms', g1, g2, g3⟩
  have hT : ∀ k, spanF p L' R' M' rs' ms' k ∨ v.ownBlock = some k → T k ∨ w.heap.size ≤ k := fun k hk => by
   rcases hk with h | h
   ·rcases g3 k h with h | h
    ·exact .inl ((h7 k).2 (.inl h))
    ·exact .inr h
   ·exact .inl ((h7 k).2 (.inr h))
  have hv : ∀ k, v.ownBlock = some k → ¬ spanF p L' R' M' rs' ms' k := fun k hk hs => by
   rcases g3 k hs with h | h
   ·exact h6 k hk h
   ·have := (h4.lt k hk).2; omega
  refine ⟨rfl, fun k => spanF p L' R' M' rs' ms' k ∨ v.ownBlock = some k, ⟨s', L', R', M', rs', ms', g1, ?_, h3.add hr hs (by omega), h4.frame g2 h6, fun q hq => (h5 q hq).keep g2 (fun k hk ho => ⟨fun e => ho.2 ((h7 k).2 (.inl e)), ho.1, fun e => ?_⟩), hv, fun k => Iff.rfl⟩, g2.mono fun k hk => (h7 k).2 (.inl hk), hT⟩
  ·rw [if_pos rfl, List.map_append]; exact h8
  ·rcases hT k e with h | h
   ·exact ho.2 h
   ·omega
end Go.Proofs.YtlpldfocljnpnaaDoor
