/- Layer 17 Layer 17 Layer 17 Layer 17 Layer 17 Layer 17 -/
import Derived.Test.YtlpldfocljnpnaaDoorKag
import Derived.OwnWalkIn
import Derived.TacticsInMore
import Derived.LoopNIn
import Derived.LoopIn
import Derived.Test.YtlpldfocljnpnaaDoorKaf
import Derived.Test.YtlpldfocljnpnaaDoorKad
set_option maxRecDepth 100000
set_option maxHeartbeats 6400000
set_option linter.unusedSimpArgs false
namespace Go.Proofs.YtlpldfocljnpnaaDoor
open Go.RowKit Go.Shelf
attribute [local go_sem] Oper.semAt_some
structure ChoEnv (w0 : World) (c0 p k : Nat) (s e t : Value) (gs : Nat) (lbs : Array Value) (W : World) : Prop where
 low : Below w0.heap.size w0 W
 g0 : W.heap[c0]? = some (.cells #[.int .i64 (k : Nat), s, e, t] 77 (0, 0))
 g1 : W.heap[c0 + 1]? = some (.cells #[.func (.func gs) #[] lbs] 104 (0, 0))
 g2 : W.heap[c0 + 2]? = some (.cells #[.pointer (some ⟨p, 0, none⟩)] 105 (0, 0))
def ChoPr (w0 : World) (c0 q : Nat) : Prop := q < w0.heap.size ∨ (c0 ≤ q ∧ q ≤ c0 + 2)
theorem ChoEnv.frame {w0 : World} {c0 p k : Nat} {s e t : Value} {gs : Nat} {lbs : Array Value} {W W' : World} {F : Nat → Prop} (h : ChoEnv w0 c0 p k s e t gs lbs W) (hf : Frame F W W') (hF : ∀ q, F q → ¬ ChoPr w0 c0 q) : ChoEnv w0 c0 p k s e t gs lbs W' :=
 ⟨h.low.trans (hf.below h.low.size (fun q hq => by
  have := hF q hq
  rcases Nat.lt_or_ge q w0.heap.size with h2 | h2
  ·exact absurd (.inl h2) this
  ·exact h2)), hf.heap h.g0 (fun hq => hF _ hq (.inr ⟨by omega, by omega⟩)), hf.heap h.g1 (fun hq => hF _ hq (.inr ⟨by omega, by omega⟩)), hf.heap h.g2 (fun hq => hF _ hq (.inr ⟨by omega, by omega⟩))⟩
theorem ChoEnv.lt {w0 : World} {c0 p k : Nat} {s e t : Value} {gs : Nat} {lbs : Array Value} {W : World} (h : ChoEnv w0 c0 p k s e t gs lbs W) {q : Nat} (hq : ChoPr w0 c0 q) : q < W.heap.size := by
 have h1 := h.low.size
 have h2 := lt_of_block h.g2
 rcases hq with hq | hq <;> omega
def ChoR (a : Aut) (seenF : List Int → List Int) (N p k : Nat) (all : List (List Nat)) (w0 : World) (c0 : Nat) (s e t : Value) (gs : Nat) (lbs : Array Value) (J : List (List Nat) → World → (Nat → Prop) → (Nat → Prop) → Prop) (v : Value) (wr : World) (m : Nat) : Prop :=
 ∃ out todo Ti Tb, Bfs (newQ a seenF) (kidsH k) out (todo.map Prod.fst) all ∧ ChoSt a seenF N w0.heap.size p wr v out todo Ti (fun q => ¬ Tb q) ∧ J out wr Ti Tb ∧ ChoEnv w0 c0 p k s e t gs lbs wr ∧ (∀ q, Ti q → ¬ ChoPr w0 c0 q) ∧ (∀ q ∈ todo, q.1.length ≤ out.length ∧ ∀ y ∈ q.1, y < k) ∧ (all.length - out.length) * k + todo.length = m ∧ todo.length ≤ out.length * k + 1
theorem cell_two {W : World} {g : Nat} {a b : Value} {T : TypeId} {fr : Nat × Nat} (h : W.heap[g]? = some (.cells #[a, b] T fr)) : W.cell? ⟨g, 0, none⟩ = some a ∧ W.cell? ⟨g, 1, none⟩ = some b := by
 unfold World.cell?; rw [h]; exact ⟨rfl, rfl⟩
theorem cell_1 {W : World} {g : Nat} {a : Value} {T : TypeId} {fr : Nat × Nat} (h : W.heap[g]? = some (.cells #[a] T fr)) : W.cell? ⟨g, 0, none⟩ = some a := by
 unfold World.cell?; rw [h]; rfl
theorem ChoSt.le {a : Aut} {seenF : List Int → List Int} {N B p : Nat} {w : World} {v : Value} {out : List (List Nat)} {todo : List (List Nat × Value)} {T O : Nat → Prop} (h : ChoSt a seenF N B p w v out todo T O) : out.length ≤ N := by
 obtain ⟨s, L, R, M, rs, ms, h1, h2, h3, h4, h5, h6, h7⟩ := h.ex
 have h8 := h2.le
 rwa [List.length_map] at h8
theorem enc_letter {j : Nat} (h : j < 4) : Utf8.encode (IntKind.i32.wrap (IntKind.i64.wrap (97 + (j : Int)))) = wordB [j] := by
 have : j = 0 ∨ j = 1 ∨ j = 2 ∨ j = 3 := by omega
 rcases this with rfl | rfl | rfl | rfl <;> decide +kernel
theorem wordB_snoc (xw : List Nat) (j : Nat) : wordB xw ++ wordB [j] = wordB (xw ++ [j]) := by
 apply ByteArray.ext
 simp [wordB]
theorem infoC : (Tryd.prog.info? 107).map (fun i => (i.zero, i.size, i.bytes)) = some (some (.agg #[.string ⟨#[]⟩, .slice none 0 0]), 2, 40) := by kernel_rfl
theorem RdIo.kept {O : Nat → Prop} {w w' : World} {v : Value} {xs : List Int} (h : RdIo O w v xs) (hb : Below w.heap.size w w') : RdIo O w' v xs := h.keep (Frame.of_below (F := fun _ => False) hb) (fun _ _ ho => ⟨fun h => h, ho⟩)
theorem forth_k {a : Aut} {k n : Nat} (ok : okA a k n) (hn : n ≤ 1000) (xw : List Nat) (x : Nat) (hx : x < k) (s e t vr : Value) (w : World) (ra : RdA w s e t a) (rr : RdI w vr (rowW a xw)) :
  Calls Tryd.prog 90 #[.agg #[.int .i64 (k : Nat), s, e, t], vr, .int .i64 x] w fun r w' => (∃ v, r = .returned v ∧ OwnI w' w.heap.size v (rowW a (xw ++ [x]))) ∧ Below w.heap.size w w' := by
 have h := forth_any ok hn (rowW a xw) x hx (rowW_len ok xw) (rowW_bd ok xw) s e t vr w ra rr
 rw [ok.letters] at h
 rw [rowW_snoc, ok.start.1]
 exact h
def KidR (a : Aut) (seenF : List Int → List Int) (N p k _n : Nat) (rest : List (List Nat × Value)) (xw : List Nat) (out : List (List Nat)) (w0 : World) (c0 : Nat) (s e t : Value) (gs : Nat) (lbs : Array Value) (J : List (List Nat) → World → (Nat → Prop) → (Nat → Prop) → Prop) (Tb : Nat → Prop) (nb : Nat) (row : Value) (v i : Value) (wr : World) : Prop :=
 ∃ (j : Nat) (todo : List (List Nat × Value)) (T : Nat → Prop), i = .int .i64 j ∧ j ≤ k ∧ todo.map Prod.fst = rest.map Prod.fst ++ (kidsH k xw).take j ∧ ChoSt a seenF N w0.heap.size p wr v out todo T (fun q => ¬ Tb q) ∧ J out wr T Tb ∧ ChoEnv w0 c0 p k s e t gs lbs wr ∧ (∀ q, T q → ¬ ChoPr w0 c0 q) ∧ (∀ q ∈ todo, q.1.length ≤ out.length ∧ ∀ y ∈ q.1, y < k) ∧ wr.cell? ⟨nb, 0, none⟩ = some (.string (wordB xw)) ∧ wr.cell? ⟨nb, 1, none⟩ = some row ∧ RdIo (fun q => ¬ T q ∧ ¬ Tb q) wr row (rowW a xw) ∧ ¬ T nb
theorem lt_of_block_cell {W : World} {g o : Nat} {u : Value} (h : W.cell? ⟨g, o, none⟩ = some u) : g < W.heap.size := World.block_lt_of_cell? W _ h
theorem kids_take {k j : Nat} (xw : List Nat) (h : j < k) : (kidsH k xw).take (j + 1) = (kidsH k xw).take j ++ [xw ++ [j]] := by
 rw [List.take_succ_eq_append_getElem (by rw [kidsH_len]; exact h)]
 simp [kidsH]
theorem chosen_1 {a : Aut} {k n N : Nat} (ok : okA a k n) (hn : n ≤ 999) (hN : N ≤ 999) (seenF : List Int → List Int) (hsF : ∀ row : List Int, row.length = n → (∀ u ∈ row, 0 ≤ u ∧ u < 65521) → (seenF row).length = N ∧ ∀ u ∈ seenF row, 0 ≤ u ∧ u < 65521)
  (gs : Nat) (lbs : Array Value) (egs : ∀ args w, (callFunc gs args).run Tryd.prog w = .ok (.enter gs args) w) (w0 W : World)
  (hseen : ∀ (X : World) (row : List Int) (vr : Value), Below w0.heap.size w0 X → RdI X vr row → row.length = n → (∀ u ∈ row, 0 ≤ u ∧ u < 65521) → Calls Tryd.prog gs (#[vr] ++ lbs) X fun e w' => (∃ v, e = .returned v ∧ RdI w' v (seenF row)) ∧ Below X.heap.size X w')
  (s e t : Value) (ra : RdA w0 s e t a) (c0 p : Nat) (_hc0 : w0.heap.size ≤ c0) (hE : ChoEnv w0 c0 p k s e t gs lbs W) (_hc3 : c0 + 2 < W.heap.size) (L R M : Value) (hS : SpanO W w0.heap.size p L R M [] [] [])
  (hTi : ∀ q, spanF p L R M [] [] q → ¬ ChoPr w0 c0 q) (all : List (List Nat)) (hall : Bfs (newQ a seenF) (kidsH k) [] [[]] all) :
  GenR Tryd.prog 119 #[.pointer (some ⟨c0, 0, none⟩), .pointer (some ⟨c0 + 2, 0, none⟩), .pointer (some ⟨c0 + 1, 0, none⟩)] (RdC a) all W (spanF p L R M [] []) (ChoPr w0 c0)
   (fun W' Ti => ∃ s L R M rs ms, SpanO W' w0.heap.size p L R M rs ms s ∧ SpInv (all.map fun u => seenF (rowW a u)) s N ∧ SpShape s N ∧ ∀ q, spanF p L R M rs ms q → Ti q) := by
 intro l J Jx hJ hJt hY Tb0 h0
 obtain ⟨As, cs, es, -, -⟩ := ra.start.cell_
 rw [ok.start.1] at es
 subst es
 refine callsIn_of_wp Tryd.func119 rfl trivial ?_ rfl
 simp only [Tryd.ntmps119, List.size_toArray, List.length_cons, List.length_nil, Nat.reduceAdd, Nat.reduceSub, Array.replicate_succ, Array.replicate_zero, List.push_toArray, List.append_toArray, List.nil_append, List.cons_append]
 obtain ⟨q0, q1, q2, q3⟩ := cells4 hE.g0
 obtain ⟨hbx, hx0, hx1⟩ := box2n W (.string ⟨#[]⟩) (.slice As n cs) 107
 have hw0 := hE.low.size
 have hstart : ChoR a seenF N p k all w0 c0 (.slice As n cs) e t gs lbs J (.slice (some ⟨W.heap.size, 0, none⟩) 1 1) (W.alloc (.cells #[.string ⟨#[]⟩, .slice As n cs] 107)) ((all.length - 0) * k + 1) := by
  have hF := Frame.of_below (F := fun _ => False) hbx
  have hsp : ∀ q, spanF p L R M [] [] q → q < W.heap.size := fun q hq => (hS.ge hq).2
  refine ⟨[], [([], .slice As n cs)], fun q => spanF p L R M [] [] q ∨ q = W.heap.size, Tb0, hall, ⟨[], L, R, M, [], [], hS.frame hF (fun _ _ h => h), SpInv.start N, SpShape.start N, ?_, ?_, ?_, ?_⟩, hJ _ _ _ _ _ _ h0 (Frame.of_below hbx) (fun q h => h.imp id (fun e => by omega)) (fun q h => by rw [World.size_alloc]; rcases h with h | h; (have := hsp q h; omega); omega), hE.frame hF (fun _ h => h.elim), ?_, ?_, rfl, by simp⟩
  ·refine ⟨rfl, W.heap.size, 0, 1, _, rfl, hw0, heap_alloc_new _ _, by simp, Nat.le_refl _, fun j u hj => ?_⟩
   have := news_new W [.string ⟨#[]⟩, .slice As n cs] 107 j u hj
   rwa [Addr.add_lit] at this
  ·intro q hq
   rw [List.mem_singleton.1 hq]
   refine RdIo.of ra.start (hE.low.trans (hbx.mono hw0)) (fun q hq => ⟨fun h => ?_, fun h => ?_⟩)
   ·exact (hJt _ _ _ _ h0 q h).2.2 (.inl hq)
   ·rcases h with h | h
    ·exact hTi q h (.inl hq)
    ·omega
  ·intro q hq h
   cases hq
   exact Nat.lt_irrefl _ (hsp _ h)
  ·intro q
   exact ⟨fun h => h.imp id (fun e => by rw [e]; rfl), fun h => h.imp id (fun e => by cases e; rfl)⟩
  ·intro q hq hp
   rcases hq with hq | hq
   ·exact hTi q hq hp
   ·have := hE.lt hp; omega
  ·intro q hq
   rw [List.mem_singleton.1 hq]
   exact ⟨Nat.le_refl _, fun y hy => by cases hy⟩
 replace hstart := Lib.hid hstart
 have hJ' := Lib.hid hJ
 have hJt' := Lib.hid hJt
 have hY' := Lib.hid hY
 have hseen' := Lib.hid hseen
 have hsF' := Lib.hid hsF
 have hra := Lib.hid ra
 have hall' := Lib.hid hall
 have hok := Lib.hid ok
 clear hJ hJt hY hseen hsF ra hall ok h0 hE hS hTi
 gi_wp2
 generalize W.alloc (.cells #[.string ⟨#[]⟩, .slice As n cs] 107) = X at *
 gi_loopw [5] (fun v wr => ∃ m, ChoR a seenF N p k all w0 c0 (.slice As n cs) e t gs lbs J v wr m) (fun v wr => minOf (ChoR a seenF N p k all w0 c0 (.slice As n cs) e t gs lbs J v wr))
 case atStart => exact ⟨_, hstart.out⟩
 case round =>
  obtain ⟨hR, -⟩ := minOf_spec hrel
  revert hR
  generalize hm : minOf _ = m
  intro hR
  replace hm := Lib.hid hm
  replace hrel := Lib.hid hrel
  obtain ⟨out, todo, Ti, Tb, hbf, hst, hj, henv, hti, hwk, hmm, htn⟩ := hR
  obtain ⟨gq, oq, cq, e5, hgq, hgq2, hcq⟩ := hst.queue.form
  subst e5
  have hw := henv.low.size
  cases todo with
  | nil =>
   have hend : all = out := hbf.at_done
   obtain ⟨S1, L1, R1, M1, rs1, ms1, k1, k2, k3, k4, k5, k6, k7⟩ := hst.ex
   have hfin := Lib.hid (show ∃ s L R M rs ms, SpanO wr w0.heap.size p L R M rs ms s ∧ SpInv (all.map fun u => seenF (rowW a u)) s N ∧ SpShape s N ∧ ∀ q, spanF p L R M rs ms q → Ti q from ⟨S1, L1, R1, M1, rs1, ms1, k1, by rw [hend]; exact k2, k3, fun q hq => (k7 q).2 (.inl hq)⟩)
   rw [← hend] at hj
   replace hj := Lib.hid hj
   replace hend := Lib.hid hend
   clear k1 k2 k3 k4 k5 k6 k7 hst hbf henv hti hwk hcq
   gi_wp2
   go_end0
   exact ⟨⟨_, rfl⟩, .inl ⟨Ti, Tb, hj.out, hfin.out⟩⟩
  | cons x rest =>
   obtain ⟨xw, xv⟩ := x
   have hhd := hst.head (q := (xw, xv)) List.mem_cons_self
   obtain ⟨Ax, cx, ex, -, -⟩ := hhd.rd.cell_
   have hrl := rowW_len hok.out xw
   have hrb := rowW_bd hok.out xw
   simp only [] at ex
   rw [hrl] at ex
   subst ex
   have hc0' := hcq 0 (.string (wordB xw)) rfl
   have hc1' := hcq 1 (.slice Ax n cx) rfl
   rw [Nat.add_zero] at hc0'
   obtain ⟨A5, c5, hrun, hqt, hqb⟩ := QRow.tail (t := 127) (c := [.string (wordB xw), .slice Ax n cx]) (rest := choC rest) (by kernel_rfl) (by kernel_rfl) hst.queue rfl
   have hst1 := hst.tail hqt hqb
   obtain ⟨hbn, hn0, hn1⟩ := box2n wr (.string (wordB xw)) (.slice Ax n cx) 107
   have hst2 := hst1.kept hbn
   have hjn := hJ'.out _ _ _ _ Ti _ hj (Frame.of_below hbn) (fun q h => .inl h) (fun q h => Nat.lt_of_lt_of_le (hst1.lt h).2 hbn.size)
   have hen := henv.frame (F := fun _ => False) (Frame.of_below hbn) (fun q h => h.elim)
   have hhd2 := hhd.keep (O' := fun q => ¬ Tb q ∧ ¬ Ti q) (F := fun _ => False) (Frame.of_below hbn) (fun q _ h => ⟨fun h => h, h⟩)
   have hbt := hJt'.out _ _ _ _ hj
   have hnT : ¬ Ti wr.heap.size := fun h => by have := (hst1.lt h).2; omega
   have hnB : ¬ Tb wr.heap.size := fun h => by have := (hbt _ h).1; omega
   have hse := hsF'.out (rowW a xw) hrl hrb
   have hmm2 : (all.length - out.length) * k + rest.length + 1 = m := by rw [← hmm]; simp only [List.length_cons]; omega
   have hwx := (hwk _ List.mem_cons_self).2
   have hwl : xw.length ≤ out.length := (hwk _ List.mem_cons_self).1
   have hrk : rest.length ≤ out.length * k := by rw [List.length_cons] at htn; omega
   have hwr := Lib.hid (fun q (hq : q ∈ rest) => hwk q (List.mem_cons_of_mem _ hq))
   simp only [] at hwx hhd2
   have hg : Below w0.heap.size w0 wr := henv.low
   have hx3 : Hid (rest.length + 1 = ((xw, Value.slice Ax n cx) :: rest).length) := Lib.hid rfl
   have y1 : (0 : Int) < ((rest.length : Int) + 1) := by omega
   replace hmm2 := Lib.hid hmm2
   clear hcq hst hst1 hqt hqb hhd hj hwk hmm henv
   replace hbf := Lib.hid hbf
   replace hst2 := Lib.hid hst2
   replace hjn := Lib.hid hjn
   replace hen := Lib.hid hen
   replace hhd2 := Lib.hid hhd2
   replace hbt := Lib.hid hbt
   replace hrl := Lib.hid hrl
   simp only [List.length_cons] at hrun ⊢
   have hX1s : (wr.alloc (.cells #[.string (wordB xw), .slice Ax n cx] 107)).heap.size = wr.heap.size + 1 := by simp
   gi_wp2
   generalize wr.alloc (.cells #[.string (wordB xw), .slice Ax n cx] 107) = X1 at *
   have hSf := Lib.hid (fun W' (hf : Frame Ti X1 W') => And.intro (hen.out.frame hf hti) (hf.cell (a := ⟨wr.heap.size, 1, none⟩) hn1 hnT))
   have hRg := Lib.hid (fun W' (hf : Frame Ti X1 W') (T' : Nat → Prop) (hT : ∀ q, T' q → Ti q ∨ X1.heap.size ≤ q) => hhd2.out.keep (O' := fun q => ¬ T' q ∧ ¬ Tb q) hf (fun q hq h => ⟨h.2, fun h2 => (hT q h2).elim h.2 (fun h3 => by omega), h.1⟩))
   have hRf := Lib.hid (fun W' (hf : Frame Ti X1 W') => hhd2.out.keep (O' := fun q => ¬ Tb q ∧ ¬ Ti q) hf (fun q _ h => ⟨h.2, h⟩))
   have hPl := Lib.hid (fun q hq => hen.out.lt (q := q) hq)
   have hfr : Hid (Frame Ti X1 X1) := Lib.hid (Frame.refl _ _)
   have hadd := Lib.hid (fun W' v' (h : ChoSt a seenF N w0.heap.size p W' (.slice A5 rest.length c5) out rest Ti (fun q => ¬ Tb q)) (hr : RdI W' v' (seenF (rowW a xw))) => cho_add h hN xw v' hr hse.1 hse.2)
   clear hrun hc0' hc1' hse
   replace hX1s := Lib.hid hX1s
   rw [wpIn_wide]
   refine D_begin (fun w' => ChoEnv w0 c0 p k (.slice As n cs) e t gs lbs w' ∧ w'.cell? ⟨wr.heap.size, 1, none⟩ = some (.slice Ax n cx)) (fun _ => True) 99 (by kernel_rfl) ?_
   change wpAnyD _ _ _ _ _ _ _ _ _ _ X1.drew
   simp only [List.size_toArray, List.length_cons, List.length_nil, Nat.reduceAdd, Array.replicate_succ, Array.replicate_zero, List.push_toArray, List.append_toArray, List.nil_append, List.cons_append]
   have hD5 : Below X1.heap.size X1 X1.drew := (Below.refl _ _).drew
   replace hfr := Lib.hid (hfr.out.then_ hD5)
   replace hst2 := Lib.hid (hst2.out.kept hD5)
   have z_D5 := hD5.size; clear hD5
   generalize X1.drew = D5 at *
   refine Dt 0 rfl ?_ (hSf.out _ hfr.out) (fun _ => trivial) ?_ ?_
   rotate_left; · intro w1 hw1; have a1 := cell_1 hw1.1.g1; have a2 := cell_1 hw1.1.g2; have a3 := hw1.2; go_simp; try with_reducible rfl
   try simp only [Act.put, s_1, s_2, s_3, s_4, s_5, s_6]
   refine Dt 1 rfl ?_ (hSf.out _ hfr.out) (fun _ => trivial) ?_ ?_
   rotate_left; · intro w1 hw1; have a1 := cell_1 hw1.1.g1; have a2 := cell_1 hw1.1.g2; have a3 := hw1.2; go_simp; try with_reducible rfl
   try simp only [Act.put, s_1, s_2, s_3, s_4, s_5, s_6]
   refine Dt 2 rfl ?_ (hSf.out _ hfr.out) (fun _ => trivial) ?_ ?_
   rotate_left; · intro w1 hw1; have a1 := cell_1 hw1.1.g1; have a2 := cell_1 hw1.1.g2; have a3 := hw1.2; go_simp; try with_reducible rfl
   try simp only [Act.put, s_1, s_2, s_3, s_4, s_5, s_6]
   refine Dt 3 rfl ?_ (hSf.out _ hfr.out) (fun _ => trivial) ?_ ?_
   rotate_left; · intro w1 hw1; have a1 := cell_1 hw1.1.g1; have a2 := cell_1 hw1.1.g2; have a3 := hw1.2; go_simp; try with_reducible rfl
   try simp only [Act.put, s_1, s_2, s_3, s_4, s_5, s_6]
   refine D_one (i := 4) (by kernel_rfl) rfl ?_
   intro K hK
   rw [if_pos (by rfl)]
   go_wp2_with fail
   go_at_fn gs
   refine (hseen'.out D5 (rowW a xw) (.slice Ax n cx) (hSf.out _ hfr.out).1.low (hRf.out _ hfr.out).rd hrl.out hrb).mono ?_; rintro e D5_1 ⟨⟨v1, rfl, r1⟩, hE1⟩
   replace hfr := Lib.hid (hfr.out.then_ hE1)
   replace hst2 := Lib.hid (hst2.out.kept hE1)
   replace r1 := Lib.hid r1
   have z_1 := hE1.size; clear hE1
   refine hK _ _ (hSf.out _ hfr.out) (fun _ _ => trivial) ?_
   clear hK K
   try simp only [Act.put, s_1, s_2, s_3, s_4, s_5, s_6]
   refine D_one (i := 5) (by kernel_rfl) rfl ?_
   intro K hK
   rw [if_pos (by rfl)]
   go_wp2_with fail
   refine (hadd.out D5_1 v1 hst2.out r1.out).mono ?_; rintro e W5 ⟨rfl, T5, hst5, hfr5, hT5⟩
   have hT6 := Lib.hid (fun q hq => (hT5 q hq).imp_right (fun h => Nat.le_trans hfr.out.size h))
   replace hfr := Lib.hid (hfr.out.trans hfr5 (fun q h => .inl h))
   refine hK _ _ (hSf.out _ hfr.out) (fun _ _ => trivial) ?_
   clear hK K
   try simp only [Act.put, s_1, s_2, s_3, s_4, s_5, s_6]
   refine Dt 6 rfl ?_ (hSf.out _ hfr.out) (fun _ => trivial) ?_ ?_
   rotate_left; · intro w1 hw1; have a1 := cell_1 hw1.1.g1; have a2 := cell_1 hw1.1.g2; have a3 := hw1.2; go_simp; try with_reducible rfl
   try simp only [Act.put, s_1, s_2, s_3, s_4, s_5, s_6]
   refine D_done (by kernel_rfl) ?_ _
   have hX1t : wr.heap.size < X1.heap.size := by rw [hX1s.out]; omega
   clear hadd hseen' hRf hX1s hst2
   have hj5 := hJ'.out _ _ _ _ T5 _ hjn.out hfr.out hT6.out (fun q h => (hst5.lt h).2)
   have hen5 := (hSf.out _ hfr.out).1
   have hc15 := (hSf.out _ hfr.out).2
   have hc05 := hfr.out.cell (a := ⟨wr.heap.size, 0, none⟩) hn0 hnT
   have hsz5 := hfr.out.size
   have hti5 : ∀ q, T5 q → ¬ ChoPr w0 c0 q := fun q hq hp => (hT6.out q hq).elim (fun h => hti q h hp) (fun h => by have := hPl.out q hp; omega)
   have hrow5 := hRg.out _ hfr.out T5 hT6.out
   have hn5 : ¬ T5 wr.heap.size := fun h => (hT6.out _ h).elim hnT (fun h => by omega)
   replace hj5 := Lib.hid hj5
   replace hen5 := Lib.hid hen5
   replace hrow5 := Lib.hid hrow5
   replace hti5 := Lib.hid hti5
   replace hst5 := Lib.hid hst5
   clear hSf hRg hT6 hT5 hjn hn0 hn1 hti hen
   cases hnq : newQ a seenF out xw with
   | false =>
    rw [hnq] at hst5
    gi_wp2
    have hcr := Lib.hid (show ChoR a seenF N p k all w0 c0 (.slice As n cs) e t gs lbs J (.slice A5 rest.length c5) W5 ((all.length - out.length) * k + rest.length) from ⟨out, rest, T5, Tb, hbf.out.at_skip hnq, hst5.out, hj5.out, hen5.out, hti5.out, hwr.out, rfl, by omega⟩)
    go_roundw
    case rel => exact ⟨_, hcr.out⟩
    case measure => exact minOf_lt hcr.out (Nat.lt_of_lt_of_eq (by rw [← hmm2.out]; omega) hm.out.symm)
   | true =>
    rw [hnq] at hst5
    rw [if_pos rfl] at hst5
    have hbf5 := hbf.out.at_take hnq
    obtain ⟨rst, hal⟩ := hbf5.begins
    have hlo : out.length + 1 ≤ all.length := by rw [hal]; simp
    obtain ⟨fn, tmps, assign, body, hy, hR⟩ := hY'.out out xw (.agg #[.string (wordB xw), .slice Ax n cx]) W5 T5 Tb hj5.out ⟨rst, by rw [hal]; simp⟩ ⟨_, rfl, hrow5.out.keep (Frame.refl (fun _ => False) _) (fun q _ h => ⟨fun h => h, h⟩)⟩
    have hbt5 := hJt'.out _ _ _ _ hj5.out
    replace hbf5 := Lib.hid hbf5
    replace hal := Lib.hid hal
    replace hR := Lib.hid hR
    replace hbt5 := Lib.hid hbt5
    clear hfr5 hbf hj5
    gi_wp2
    refine hR.out.mono ?_
    rintro e6 W6 (⟨rfl, Tb', hj6, hfr6, hT6⟩ | ⟨rfl, Tb', hjx6⟩)
    ·have henb := Lib.hid (hen5.out.frame hfr6 (fun q hq => (hbt5.out q hq).2.2))
     have hc16 := hfr6.cell hc15 hnB
     have hc06 := hfr6.cell hc05 hnB
     have hst6 := Lib.hid (hst5.out.frame (O' := fun q => ¬ Tb' q) hfr6 (fun q hq h => (hbt5.out q h).2.1 hq) (fun q hq h => ⟨h, fun h2 => (hT6 q h2).elim h (fun h3 => by omega)⟩))
     have hrow6 := Lib.hid (hrow5.out.keep (O' := fun q => ¬ T5 q ∧ ¬ Tb' q) hfr6 (fun q hq h => ⟨h.2, h.1, fun h2 => (hT6 q h2).elim h.2 (fun h3 => by omega)⟩))
     have hsz6 := hfr6.size
     have hnb6 : ¬ Tb' wr.heap.size := fun h => (hT6 _ h).elim hnB (fun h => by have := lt_of_block_cell hc05; omega)
     have hks := Lib.hid (show KidR a seenF N p k n rest xw (out ++ [xw]) w0 c0 (.slice As n cs) e t gs lbs J Tb' wr.heap.size (.slice Ax n cx) (.slice A5 rest.length c5) (.int .i64 0) W6 from ⟨0, rest, T5, rfl, Nat.zero_le _, by simp, hst6.out, hj6, henb.out, hti5.out, fun q hq => ⟨by have := (hwr.out q hq).1; rw [List.length_append]; omega, (hwr.out q hq).2⟩, hc06, hc16, hrow6.out, hn5⟩)
     have hz0 : Hid (wr.heap.size < W6.heap.size) := Lib.hid (by have := lt_of_block_cell hc06; exact this)
     replace hnb6 := Lib.hid hnb6
     clear hj6 hfr6 hT6 hbt5 hst5 hrow5 hc15 hc05 hti5 hst6 hrow6 hen5 hc16 hc06 hn5 hfr hsz5
     obtain ⟨q0, q1, q2, q3⟩ := cells4 henb.out.g0
     gi_wp2
     generalize wr.heap.size = nb at *
     gi_loopw [5, 35] (fun v i wr' => KidR a seenF N p k n rest xw (out ++ [xw]) w0 c0 (.slice As n cs) e t gs lbs J Tb' nb (.slice Ax n cx) v i wr') (fun _ i _ => k - (intOf i).toNat)
     case atStart => exact hks.out
     case round =>
      obtain ⟨j, todo, T, rfl, hjk, htd, hst7, hj7, hen7, hti7, hwd7, hc07, hc17, hrow7, hn7⟩ := hrel
      rcases Nat.lt_or_ge j k with hlt | hge
      ·obtain ⟨g7, o7, c7, e7, hg7, hg72, hcq7⟩ := hst7.queue.form
       subst e7
       have i1 : (j : Int) < (k : Int) := by omega
       have i0 : (0 : Int) ≤ (j : Int) := by omega
       have hk4 := hok.out.pos
       have hnk : (rowW a xw).length = n := hrl.out
       have hfo := Lib.hid (fun W' (hf : Frame T wr W') => forth_k hok.out (by omega) xw j hlt (.slice As n cs) e t (.slice Ax n cx) W' (hra.out.below (hen7.frame hf hti7).low (Nat.le_refl _)) (hrow7.keep (O' := fun _ => True) hf (fun q hq h => ⟨h.1, trivial⟩)).rd)
       have hS7 := Lib.hid (fun W' (hf : Frame T wr W') => show (ChoEnv w0 c0 p k (.slice As n cs) e t gs lbs W' ∧ W'.cell? ⟨nb, 0, none⟩ = some (.string (wordB xw)) ∧ W'.cell? ⟨nb, 1, none⟩ = some (.slice Ax n cx)) from ⟨hen7.frame hf hti7, hf.cell hc07 hn7, hf.cell hc17 hn7⟩)
       have hfr7 : Hid (Frame T wr wr) := Lib.hid (Frame.refl _ _)
       have hol := hst7.le
       have htn7 : todo.length ≤ 10000 := by
        have := congrArg List.length htd
        rw [List.length_map, List.length_append, List.length_map, List.length_take, kidsH_len] at this
        have h2 : out.length * k ≤ 999 * 4 := Nat.mul_le_mul (by rw [List.length_append] at hol; omega) hk4.2
        omega
       have u1 : Utf8.encode (IntKind.i32.wrap (IntKind.i64.wrap (97 + (j : Int)))) = wordB [j] := enc_letter (by omega)
       have u2 : ¬ 9223372036854775807 < (wordB xw).size + (wordB [j]).size := by
        rw [wordB_size, wordB_size, List.length_singleton]; rw [List.length_append] at hol; omega
       have u3 := wordB_snoc xw j
       have htl := Lib.hid htd
       replace hst7 := Lib.hid hst7
       replace hj7 := Lib.hid hj7
       replace hen7 := Lib.hid hen7
       replace hti7 := Lib.hid hti7
       replace hwd7 := Lib.hid hwd7
       replace hrow7 := Lib.hid hrow7
       have hnbl : nb < wr.heap.size := lt_of_block_cell hc07
       have hTl7 := Lib.hid (fun q (h : T q) => (hst7.out.lt h).2)
       have hTb7 := Lib.hid (fun q (h : Tb' q) => (hJt'.out _ _ _ _ hj7.out q h).1)
       clear hcq7 htd hc07 hc17
       obtain ⟨iC, hiC, hC0, hC1, hC2⟩ := info_parts infoC
       gi_wp2
       rw [wpIn_wide]
       refine D_begin (fun w' => (ChoEnv w0 c0 p k (.slice As n cs) e t gs lbs w' ∧ w'.cell? ⟨nb, 0, none⟩ = some (.string (wordB xw)) ∧ w'.cell? ⟨nb, 1, none⟩ = some (.slice Ax n cx))) (fun _ => True) 99 (by kernel_rfl) ?_
       change wpAnyD _ _ _ _ _ _ _ _ _ _ wr.drew
       simp only [List.size_toArray, List.length_cons, List.length_nil, Nat.reduceAdd, Array.replicate_succ, Array.replicate_zero, List.push_toArray, List.append_toArray, List.nil_append, List.cons_append]
       have hD4 : Below wr.heap.size wr wr.drew := (Below.refl _ _).drew
       replace hfr7 := Lib.hid (hfr7.out.then_ hD4)
       replace hst7 := Lib.hid (hst7.out.kept hD4)
       have z_D4 := hD4.size; clear hD4
       generalize wr.drew = D4 at *
       refine Dt 0 rfl ?_ (hS7.out _ hfr7.out) (fun _ => trivial) ?_ ?_
       rotate_left; · intro w1 hw1; have a1 := hw1.2.1; have a2 := hw1.2.2; obtain ⟨a3, a4, a5, a6⟩ := cells4 hw1.1.g0; go_simp; try with_reducible rfl
       try simp only [Act.put, s_1, s_2, s_3, s_4, s_5, s_6]
       refine Dt 1 rfl ?_ (hS7.out _ hfr7.out) (fun _ => trivial) ?_ ?_
       rotate_left; · intro w1 hw1; have a1 := hw1.2.1; have a2 := hw1.2.2; obtain ⟨a3, a4, a5, a6⟩ := cells4 hw1.1.g0; go_simp; try with_reducible rfl
       try simp only [Act.put, s_1, s_2, s_3, s_4, s_5, s_6]
       refine Dt 3 rfl ?_ (hS7.out _ hfr7.out) (fun _ => trivial) ?_ ?_
       rotate_left; · intro w1 hw1; have a1 := hw1.2.1; have a2 := hw1.2.2; obtain ⟨a3, a4, a5, a6⟩ := cells4 hw1.1.g0; go_simp; try with_reducible rfl
       try simp only [Act.put, s_1, s_2, s_3, s_4, s_5, s_6]
       refine Dt 8 rfl ?_ (hS7.out _ hfr7.out) (fun _ => trivial) ?_ ?_
       rotate_left; · intro w1 hw1; have a1 := hw1.2.1; have a2 := hw1.2.2; obtain ⟨a3, a4, a5, a6⟩ := cells4 hw1.1.g0; go_simp; try with_reducible rfl
       try simp only [Act.put, s_1, s_2, s_3, s_4, s_5, s_6]
       refine Dt 9 rfl ?_ (hS7.out _ hfr7.out) (fun _ => trivial) ?_ ?_
       rotate_left; · intro w1 hw1; have a1 := hw1.2.1; have a2 := hw1.2.2; obtain ⟨a3, a4, a5, a6⟩ := cells4 hw1.1.g0; go_simp; try with_reducible rfl
       try simp only [Act.put, s_1, s_2, s_3, s_4, s_5, s_6]
       refine Dt 11 rfl ?_ (hS7.out _ hfr7.out) (fun _ => trivial) ?_ ?_
       rotate_left; · intro w1 hw1; have a1 := hw1.2.1; have a2 := hw1.2.2; obtain ⟨a3, a4, a5, a6⟩ := cells4 hw1.1.g0; go_simp; try with_reducible rfl
       try simp only [Act.put, s_1, s_2, s_3, s_4, s_5, s_6]
       refine Dt 2 rfl ?_ (hS7.out _ hfr7.out) (fun _ => trivial) ?_ ?_
       rotate_left; · intro w1 hw1; have a1 := hw1.2.1; have a2 := hw1.2.2; obtain ⟨a3, a4, a5, a6⟩ := cells4 hw1.1.g0; go_simp; try with_reducible rfl
       try simp only [Act.put, s_1, s_2, s_3, s_4, s_5, s_6]
       refine Dt 4 rfl ?_ (hS7.out _ hfr7.out) (fun _ => trivial) ?_ ?_
       rotate_left; · intro w1 hw1; have a1 := hw1.2.1; have a2 := hw1.2.2; obtain ⟨a3, a4, a5, a6⟩ := cells4 hw1.1.g0; go_simp; try with_reducible rfl
       try simp only [Act.put, s_1, s_2, s_3, s_4, s_5, s_6]
       refine Dt 10 rfl ?_ (hS7.out _ hfr7.out) (fun _ => trivial) ?_ ?_
       rotate_left; · intro w1 hw1; have a1 := hw1.2.1; have a2 := hw1.2.2; obtain ⟨a3, a4, a5, a6⟩ := cells4 hw1.1.g0; go_simp; try with_reducible rfl
       try simp only [Act.put, s_1, s_2, s_3, s_4, s_5, s_6]
       refine Dt 5 rfl ?_ (hS7.out _ hfr7.out) (fun _ => trivial) ?_ ?_
       rotate_left; · intro w1 hw1; have a1 := hw1.2.1; have a2 := hw1.2.2; obtain ⟨a3, a4, a5, a6⟩ := cells4 hw1.1.g0; go_simp; try with_reducible rfl
       try simp only [Act.put, s_1, s_2, s_3, s_4, s_5, s_6]
       refine Dt 6 rfl ?_ (hS7.out _ hfr7.out) (fun _ => trivial) ?_ ?_
       rotate_left; · intro w1 hw1; have a1 := hw1.2.1; have a2 := hw1.2.2; obtain ⟨a3, a4, a5, a6⟩ := cells4 hw1.1.g0; go_simp; try with_reducible rfl
       try simp only [Act.put, s_1, s_2, s_3, s_4, s_5, s_6]
       refine Dt 7 rfl ?_ (hS7.out _ hfr7.out) (fun _ => trivial) ?_ ?_
       rotate_left; · intro w1 hw1; have a1 := hw1.2.1; have a2 := hw1.2.2; obtain ⟨a3, a4, a5, a6⟩ := cells4 hw1.1.g0; go_simp; try with_reducible rfl
       try simp only [Act.put, s_1, s_2, s_3, s_4, s_5, s_6]
       refine D_one (i := 12) (by kernel_rfl) rfl ?_
       intro K hK
       rw [if_pos (by rfl)]
       go_wp2_with fail
       refine (hfo.out D4 hfr7.out).mono ?_; rintro e D4_1 ⟨⟨v1, rfl, r1⟩, hE1⟩
       replace hfr7 := Lib.hid (hfr7.out.then_ hE1)
       replace hst7 := Lib.hid (hst7.out.kept hE1)
       obtain ⟨A9, c9, rfl⟩ := own_form r1
       have r2 := OwnI.o (O := fun q => D4.heap.size ≤ q) r1 (by rw [rowW_len hok.out]; omega) (fun q _ h _ => h)
       replace r2 := Lib.hid r2
       clear r1
       have z_1 := hE1.size; clear hE1
       refine hK _ _ (hS7.out _ hfr7.out) (fun _ _ => trivial) ?_
       clear hK K
       try simp only [Act.put, s_1, s_2, s_3, s_4, s_5, s_6]
       refine Dt 13 rfl ?_ (hS7.out _ hfr7.out) (fun _ => trivial) ?_ ?_
       rotate_left; · intro w1 hw1; have a1 := hw1.2.1; have a2 := hw1.2.2; obtain ⟨a3, a4, a5, a6⟩ := cells4 hw1.1.g0; go_simp; try with_reducible rfl
       try simp only [Act.put, s_1, s_2, s_3, s_4, s_5, s_6]
       refine D_one (i := 14) (by kernel_rfl) rfl ?_
       intro K hK
       rw [if_pos (by rfl)]
       go_simp
       have hE2 : Below D4_1.heap.size D4_1 (D4_1.alloc (.cells #[.string (wordB (xw ++ [j])), .slice A9 (rowW a (xw ++ [j])).length c9] 107)) := (Below.refl _ _).alloc (Nat.le_refl _) _
       replace hfr7 := Lib.hid (hfr7.out.then_ hE2)
       replace hst7 := Lib.hid (hst7.out.kept hE2)
       replace r2 := Lib.hid (r2.out.kept hE2)
       have n14 : Hid (∀ i u, [.string (wordB (xw ++ [j])), .slice A9 (rowW a (xw ++ [j])).length c9][i]? = some u → (D4_1.alloc (.cells #[.string (wordB (xw ++ [j])), .slice A9 (rowW a (xw ++ [j])).length c9] 107)).cell? ((⟨D4_1.heap.size, 0, none⟩ : Addr).add i) = some u) := Lib.hid (news_new _ _ _)
       have z_2 : D4_1.heap.size < (D4_1.alloc (.cells #[.string (wordB (xw ++ [j])), .slice A9 (rowW a (xw ++ [j])).length c9] 107)).heap.size := by simp
       clear hE2
       refine hK _ _ (hS7.out _ hfr7.out) (fun _ _ => trivial) ?_
       clear hK K
       try simp only [Act.put, s_1, s_2, s_3, s_4, s_5, s_6]
       generalize (D4_1.alloc (.cells #[.string (wordB (xw ++ [j])), .slice A9 (rowW a (xw ++ [j])).length c9] 107)) = D4_2 at *
       refine D_one (i := 15) (by kernel_rfl) rfl ?_
       intro K hK
       refine step_qapp (by rfl) _ _ 127 (by rfl) 107 iC _ 2 40 Tryd.underlying127 hiC hC0 hC1 hC2 (by rfl) (by omega) (by omega) w0.heap.size (.slice (some ⟨g7, o7, none⟩) todo.length c7) todo.length (choC todo) (by rfl) hst7.out.queue ⟨_, 0, none⟩ [.string (wordB (xw ++ [j])), .slice A9 (rowW a (xw ++ [j])).length c9] (by rfl) rfl n14.out (by simp [Value.oneCell']) (by omega) (by omega) ?_
       intro A8 c8 w2 hown8 hgrow8 hat8
       obtain ⟨T', hst8, hf8, hT8⟩ := hst7.out.snoc (q := (xw ++ [j], .slice A9 (rowW a (xw ++ [j])).length c9)) hown8 hgrow8 hat8 (r2.out.keep (Frame.refl (fun _ => False) _) (fun q _ h => ⟨fun h => h, ⟨fun hb => by have := hTb7.out q hb; omega, fun ht => by have := hTl7.out q ht; omega⟩⟩))
       have hT9 := Lib.hid (fun q hq => (hT8 q hq).imp_right (fun h => Nat.le_trans hfr7.out.size h))
       replace hfr7 := Lib.hid (hfr7.out.trans hf8 (fun q h => .inl h))
       replace hst8 := Lib.hid hst8
       clear hown8 hgrow8 hat8 hf8 hT8 hst7 r2 n14
       refine hK _ _ (hS7.out _ hfr7.out) (fun _ _ => trivial) ?_
       clear hK K
       try simp only [Act.put, s_1, s_2, s_3, s_4, s_5, s_6]
       refine D_one (i := 16) (by kernel_rfl) rfl ?_
       intro K hK
       rw [if_pos (by rfl)]
       go_simp
       refine hK _ _ (hS7.out _ hfr7.out) (fun _ _ => trivial) ?_
       clear hK K
       try simp only [Act.put, s_1, s_2, s_3, s_4, s_5, s_6]
       refine D_done (by kernel_rfl) ?_ _
       gi_wp2
       have hj8 := Lib.hid (hJ'.out _ _ _ _ T' _ hj7.out hfr7.out hT9.out (fun q h => (hst8.out.lt h).2))
       have hn8 : ¬ T' nb := fun h => (hT9.out _ h).elim hn7 (fun h => by omega)
       have hti8 := Lib.hid (fun q (hq : T' q) (hp : ChoPr w0 c0 q) => (hT9.out q hq).elim (fun h => hti7 q h hp) (fun h => by have := hen7.out.lt hp; omega))
       have hrow8 := Lib.hid (hrow7.out.keep (O' := fun q => ¬ T' q ∧ ¬ Tb' q) hfr7.out (fun q hq h => ⟨h.1, fun h2 => (hT9.out q h2).elim h.1 (fun h3 => by omega), h.2⟩))
       have hS8 := Lib.hid (hS7.out _ hfr7.out)
       have hwd8 : Hid (∀ q ∈ todo ++ [(xw ++ [j], Value.slice A9 (rowW a (xw ++ [j])).length c9)], q.1.length ≤ (out ++ [xw]).length ∧ ∀ y ∈ q.1, y < k) := Lib.hid (fun q hq => by
        rcases List.mem_append.1 hq with hq | hq
        ·exact hwd7.out q hq
        ·rw [List.mem_singleton.1 hq]
         refine ⟨by simp only [List.length_append, List.length_singleton]; omega, fun y hy => ?_⟩
         rcases List.mem_append.1 hy with hy | hy
         ·exact hwx y hy
         ·rw [List.mem_singleton.1 hy]; exact hlt)
       have htl8 : Hid ((todo ++ [(xw ++ [j], Value.slice A9 (rowW a (xw ++ [j])).length c9)]).map Prod.fst = rest.map Prod.fst ++ (kidsH k xw).take (j + 1)) := Lib.hid (by rw [List.map_append, htl.out, kids_take _ hlt, List.append_assoc]; rfl)
       go_roundw
       case rel => exact ⟨j + 1, _, T', by go_num, by omega, htl8.out, hst8.out, hj8.out, hS8.out.1, hti8.out, hwd8.out, hS8.out.2.1, hS8.out.2.2, hrow8.out, hn8⟩
       case measure => simp [intOf]; omega
      ·obtain rfl : j = k := by omega
       have i2 : ¬ (j : Int) < (j : Int) := by omega
       have htl : todo.length = rest.length + j := by
        have := congrArg List.length htd
        rw [List.length_map, List.length_append, List.length_map, List.length_take, kidsH_len, Nat.min_self] at this
        exact this
       have hcr := Lib.hid (show ChoR a seenF N p j all w0 c0 (.slice As n cs) e t gs lbs J u5 wr ((all.length - (out ++ [xw]).length) * j + todo.length) from ⟨out ++ [xw], todo, T, Tb', by
        have := hbf5.out
        rw [htd, List.take_of_length_le (by rw [kidsH_len]; exact Nat.le_refl _)]; exact this, hst7, hj7, hen7, hti7, hwd7, rfl, by rw [htl, List.length_append, List.length_singleton, Nat.add_mul]; omega⟩)
       clear hst7 hj7 hen7 hti7 hwd7 hc07 hc17 hrow7 hn7 hwr
       gi_wp2
       go_roundw
       case rel => exact ⟨_, hcr.out⟩
       case measure =>
        refine minOf_lt hcr.out (Nat.lt_of_lt_of_eq ?_ hm.out.symm)
        rw [← hmm2.out, htl, List.length_append, List.length_singleton]
        obtain ⟨d, hd⟩ : ∃ d, all.length = out.length + 1 + d := ⟨all.length - (out.length + 1), by omega⟩
        rw [show all.length - (out.length + 1) = d by omega, show all.length - out.length = d + 1 by omega, Nat.add_mul]
        omega
    ·gi_wp2
     refine bodyPost_ret (results_none rfl _ _ _) rfl ?_
     exact ⟨⟨_, rfl⟩, .inr ⟨_, _, _, hjx6⟩⟩
end Go.Proofs.YtlpldfocljnpnaaDoor
namespace Go.Proofs.YtlpldfocljnpnaaDoor
open Go.RowKit Go.Shelf
theorem three_push0 (A : Array Obj) (a b c : Obj) : (((A.push a).push b).push c)[A.size]? = some a ∧ (((A.push a).push b).push c)[A.size + 1]? = some b ∧ (((A.push a).push b).push c)[A.size + 2]? = some c := by
 refine ⟨?_, ?_, ?_⟩
 ·rw [Array.getElem?_push, if_neg (by simp; omega), Array.getElem?_push, if_neg (by simp), Array.getElem?_push, if_pos (by simp)]
 ·rw [Array.getElem?_push, if_neg (by simp), Array.getElem?_push, if_pos (by simp)]
 ·rw [Array.getElem?_push, if_pos (by simp)]
theorem three0 (w : World) (a b c : Obj) : (((w.alloc a).alloc b).alloc c).heap[w.heap.size]? = some a ∧ (((w.alloc a).alloc b).alloc c).heap[w.heap.size + 1]? = some b ∧ (((w.alloc a).alloc b).alloc c).heap[w.heap.size + 2]? = some c := three_push0 w.heap a b c
theorem chosen_any (k : Nat) (s e t : Value) (A1 A2 A3 : Option Addr) (n1 n2 n3 d1 d2 d3 : Nat) (hs : s = .slice A1 n1 d1) (he : e = .slice A2 n2 d2) (ht : t = .slice A3 n3 d3) (gs : Nat) (lbs : Array Value) (p : Nat) (w : World) :
  Calls Tryd.prog 80 #[.agg #[.int .i64 (k : Nat), s, e, t], .func (.func gs) #[] lbs, .pointer (some ⟨p, 0, none⟩)] w fun r w' => r = .returned (.func (.func 119) #[] #[.pointer (some ⟨w.heap.size, 0, none⟩), .pointer (some ⟨w.heap.size + 2, 0, none⟩), .pointer (some ⟨w.heap.size + 1, 0, none⟩)]) ∧ w'.heap.size = w.heap.size + 3 ∧ Below w.heap.size w w' ∧
   w'.heap[w.heap.size]? = some (.cells #[.int .i64 (k : Nat), s, e, t] 77 (0, 0)) ∧ w'.heap[w.heap.size + 1]? = some (.cells #[.func (.func gs) #[] lbs] 104 (0, 0)) ∧ w'.heap[w.heap.size + 2]? = some (.cells #[.pointer (some ⟨p, 0, none⟩)] 105 (0, 0)) := by
 subst hs he ht
 obtain ⟨h1, h2, h3⟩ := three0 w (.cells #[.int .i64 (k : Nat), .slice A1 n1 d1, .slice A2 n2 d2, .slice A3 n3 d3] 77) (.cells #[.func (.func gs) #[] lbs] 104) (.cells #[.pointer (some ⟨p, 0, none⟩)] 105)
 replace h1 := Lib.hid h1
 replace h2 := Lib.hid h2
 replace h3 := Lib.hid h3
 go_enter Tryd.func80, Tryd.ntmps80
 go_wp2
 go_ret
 exact ⟨rfl, by simp, (((Below.refl _ w).alloc (Nat.le_refl _) _).alloc (by simp) _).alloc (by simp; omega) _, h1.out, h2.out, h3.out⟩
end Go.Proofs.YtlpldfocljnpnaaDoor
namespace Go.Proofs.YtlpldfocljnpnaaDoor
open Go.RowKit Go.Shelf
structure LeaI (a : Aut) (wR : World) (p b8 : Nat) (pre : List (List Nat)) (W : World) (Ti Tb : Nat → Prop) : Prop where
 fr : Frame (fun k => k = p ∨ k = b8) wR W
 ti : ∀ k, Ti k → k = p ∨ wR.heap.size ≤ k
 tlt : ∀ k, Ti k → k < W.heap.size
 len : pre.length ≤ 12
 ex : ∃ (v : Value) (todo : List (List Nat × Value)), todo.map Prod.fst = pre ∧ W.heap[b8]? = some (.cells #[v] 127 (0, 0)) ∧ W.ownsRow (wR.heap.size + 2) 107 2 v todo.length (choC todo) ∧
  (∀ k, Tb k ↔ k = b8 ∨ v.ownBlock = some k) ∧ (∀ k, Tb k → ¬ Ti k) ∧ ∀ q ∈ todo, RdIo (fun k => ¬ Ti k ∧ ¬ Tb k ∧ k ≠ wR.heap.size ∧ k ≠ wR.heap.size + 1) W q.2 (rowW a q.1)
namespace LeaI
variable {a : Aut} {wR A B : World} {p b8 : Nat} {pre : List (List Nat)} {F Ti Ti' Tb : Nat → Prop}
theorem frame (h : LeaI a wR p b8 pre A Ti Tb) (hp : p < b8) (hb : b8 < wR.heap.size) (hf : Frame F A B) (hF : ∀ k, F k → Ti k ∨ k = wR.heap.size ∨ k = wR.heap.size + 1) (hT : ∀ k, Ti' k → Ti k ∨ A.heap.size ≤ k) (hB : ∀ k, Ti' k → k < B.heap.size) : LeaI a wR p b8 pre B Ti' Tb := by
 obtain ⟨v, todo, h1, h2, h3, h4, h5, h6⟩ := h.ex
 have hsz := h.fr.size
 have hlt : ∀ k, Tb k → k < A.heap.size := fun k hk => by
  rcases (h4 k).1 hk with rfl | e
  ·omega
  ·exact (h3.lt k e).2
 have hTF : ∀ k, Tb k → ¬ F k := fun k hk hF' => by
  rcases hF k hF' with e | e
  ·exact h5 k hk e
  ·rcases (h4 k).1 hk with rfl | e2
   ·omega
   ·have := (h3.lt k e2).1; omega
 refine ⟨h.fr.trans hf (fun k hk => ?_), fun k hk => ?_, hB, h.len, v, todo, h1, hf.heap h2 (hTF b8 ((h4 b8).2 (.inl rfl))), hf.owns h3 (fun k hk => hTF k ((h4 k).2 (.inr hk))), h4, fun k hk hi => ?_, fun q hq => (h6 q hq).keep hf (fun k hk ho => ⟨fun e => ?_, fun e => ?_, ho.2⟩)⟩
 ·rcases hF k hk with e | e
  ·rcases h.ti k e with e | e
   ·exact .inl (.inl e)
   ·exact .inr e
  ·exact .inr (by omega)
 ·rcases hT k hk with e | e
  ·exact h.ti k e
  ·exact .inr (by omega)
 ·rcases hT k hi with e | e
  ·exact h5 k hk e
  ·have := hlt k hk; omega
 ·rcases hF k e with e | e
  ·exact ho.1 e
  ·rcases e with e | e
   ·exact ho.2.2.1 e
   ·exact ho.2.2.2 e
 ·rcases hT k e with e | e
  ·exact ho.1 e
  ·omega
theorem lt (h : LeaI a wR p b8 pre A Ti Tb) (hb : b8 < wR.heap.size) {k : Nat} (hk : Tb k) : k < A.heap.size ∧ ¬ Ti k ∧ (k ≠ wR.heap.size ∧ k ≠ wR.heap.size + 1) ∧ (k = b8 ∨ wR.heap.size + 2 ≤ k) := by
 obtain ⟨v, todo, h1, h2, h3, h4, h5, h6⟩ := h.ex
 have hsz := h.fr.size
 rcases (h4 k).1 hk with rfl | e
 ·exact ⟨by omega, h5 _ hk, ⟨by omega, by omega⟩, .inl rfl⟩
 ·have := h3.lt k e
  exact ⟨this.2, h5 _ hk, ⟨by omega, by omega⟩, .inr this.1⟩
theorem snoc (h : LeaI a wR p b8 pre A Ti Tb) (_hp : p < b8) (hb : b8 < wR.heap.size) (hs : wR.heap.size + 2 ≤ A.heap.size) :
  ∃ (v : Value) (todo : List (List Nat × Value)), todo.length = pre.length ∧ A.heap[b8]? = some (.cells #[v] 127 (0, 0)) ∧ A.ownsRow (wR.heap.size + 2) 107 2 v todo.length (choC todo) ∧ v.ownBlock ≠ some b8 ∧
   ∀ (x : List Nat) (u : Value) (C D : World) (v' : Value), Below A.heap.size A C → D.ownsRow (wR.heap.size + 2) 107 2 v' (todo.length + 1) (choC todo ++ [.string (wordB x), u]) → C.grownBy D v.ownBlock → (v'.ownBlock = v.ownBlock ∨ v'.ownBlock = some C.heap.size) → RdIo (fun k => ¬ Ti k ∧ ¬ Tb k ∧ k ≠ wR.heap.size ∧ k ≠ wR.heap.size + 1) A u (rowW a x) →
    D.heap[b8]? = some (.cells #[v] 127 (0, 0)) ∧ Frame Tb A (D.setCell ⟨b8, 0, none⟩ v') ∧ (pre.length ≤ 11 → ∃ Tb', LeaI a wR p b8 (pre ++ [x]) (D.setCell ⟨b8, 0, none⟩ v') Ti Tb' ∧ ∀ k, Tb' k → Tb k ∨ A.heap.size ≤ k) := by
 obtain ⟨v, todo, h1, h2, h3, h4, h5, h6⟩ := h.ex
 have hsz := h.fr.size
 refine ⟨v, todo, by rw [← h1, List.length_map], h2, h3, fun e => by have := h3.lt _ e; omega, ?_⟩
 intro x u C D v' hC hD hg hat hr
 have hCs := hC.size
 have hDs := hg.size
 have hfC : Frame Tb A C := Frame.of_below hC
 have hfD : Frame Tb A D := hfC.trans (Frame.grown (F := Tb) hg (fun k e => (h4 k).2 (.inr e))) (fun k h => .inl h)
 have hfE : Frame Tb A (D.setCell ⟨b8, 0, none⟩ v') := hfD.trans (Frame.setCell D b8 0 v' ((h4 b8).2 (.inl rfl))) (fun k h => .inl h)
 have hvo : ∀ k, v'.ownBlock = some k → v.ownBlock = some k ∨ A.heap.size ≤ k := fun k e => by
  rcases hat with h | h
  ·exact .inl (by rw [← h, e])
  ·rw [h] at e; cases e; exact .inr hCs
 have hbD : D.heap[b8]? = some (.cells #[v] 127 (0, 0)) := by
  rw [hg.block b8 (by omega) (fun e => by have := h3.lt b8 e.symm; omega)]
  exact heap_keep h2 hC
 have hTn : ∀ k, (k = b8 ∨ v'.ownBlock = some k) → Tb k ∨ A.heap.size ≤ k := fun k hk => by
  rcases hk with hk | hk
  ·exact .inl ((h4 k).2 (.inl hk))
  ·exact (hvo k hk).imp (fun e => (h4 k).2 (.inr e)) id
 have hnTi : ∀ k, (k = b8 ∨ v'.ownBlock = some k) → ¬ Ti k := fun k hk hi => by
  rcases hTn k hk with e | e
  ·exact h5 k e hi
  ·have := h.tlt k hi; omega
 refine ⟨hbD, hfE, fun hl => ⟨fun k => k = b8 ∨ v'.ownBlock = some k, ⟨h.fr.trans hfE (fun k hk => ?_), h.ti, fun k hk => Nat.lt_of_lt_of_le (h.tlt k hk) hfE.size, by rw [List.length_append]; simp; omega, v', todo ++ [(x, u)], by rw [List.map_append, h1]; rfl, heap_set1 _ hbD, ?_, fun k => Iff.rfl, hnTi, fun q hq => ?_⟩, hTn⟩⟩
 ·rcases (h4 k).1 hk with e | e
  ·exact .inl (.inr e)
  ·have := h3.lt k e; exact .inr (by omega)
 ·rw [List.length_append, choC_append]
  exact (Frame.setCell (F := fun k => k = b8) D b8 0 v' rfl).owns hD (fun k e hk => by have := hD.lt k e; omega)
 ·have hk : ∀ (y : List Nat) (vy : Value), RdIo (fun k => ¬ Ti k ∧ ¬ Tb k ∧ k ≠ wR.heap.size ∧ k ≠ wR.heap.size + 1) A vy (rowW a y) → RdIo (fun k => ¬ Ti k ∧ ¬ (k = b8 ∨ v'.ownBlock = some k) ∧ k ≠ wR.heap.size ∧ k ≠ wR.heap.size + 1) (D.setCell ⟨b8, 0, none⟩ v') vy (rowW a y) := fun y vy hy => hy.keep hfE (fun k hk ho => ⟨ho.2.1, ho.1, fun e => by
   rcases hTn k e with h | h
   ·exact ho.2.1 h
   ·omega, ho.2.2⟩)
  rcases List.mem_append.1 hq with hq | hq
  ·exact hk _ _ (h6 q hq)
  ·rw [List.mem_singleton.1 hq]; exact hk _ _ hr
end LeaI
end Go.Proofs.YtlpldfocljnpnaaDoor
namespace Go.Proofs.YtlpldfocljnpnaaDoor
open Go.RowKit Go.Shelf
theorem mid_start (w : World) (n : Nat) : ColsMid n w.heap.size w.heap.size (w.alloc (.cells #[.slice none 0 0, .slice none 0 0, .slice none 0 0] 100)) (.slice none 0 0) [] [] [] (spanF w.heap.size (.slice none 0 0) (.slice none 0 0) (.slice none 0 0) [] []) :=
 ⟨[], .slice none 0 0, .slice none 0 0, .slice none 0 0, [], [], ⟨heap_alloc_new _ _, Nat.le_refl _, World.ownsRow_nil _ _ _ _, OwnMv_nil _ _, OwnMv_nil _ _, fun u hu v _ => .inl (by rcases List.mem_cons.1 hu with rfl | hu; rfl; cases hu)⟩, SpInv.start n, SpShape.start n, ColAcc.start _ _ _, fun k => ⟨fun h => .inl h, fun h => by rcases h with h | h; exact h; cases h⟩⟩
def ColsR (a : Aut) (n : Nat) (cols : List (List Int)) (X : World) (p : Nat) (wr : World) (o : Value) (out todo : List (List Int)) : Prop := Bfs newC (kidsC a) out todo cols ∧ (∃ cs T, ColsMid n X.heap.size p wr o cs out out T) ∧ Below X.heap.size X wr
theorem columns_any {a : Aut} {k n : Nat} (ok : okA a k n) (hn : n ≤ 999) {cols : List (List Int)} (hcols : ColsOf a cols) (s e t : Value) (w : World) (ra : RdA w s e t a) :
  Calls Tryd.prog 104 #[.agg #[.int .i64 a.letters, s, e, t]] w fun r w' => (∃ v, r = .returned v ∧ RdM w' v cols) ∧ Below w.heap.size w w' := by
 obtain ⟨iR, hiR, hR0, hR1, hR2⟩ := info_parts infoR
 have hend := ok.end_
 have hre := ra.end_
 obtain ⟨Ae, ce, ee, -, -⟩ := hre.cell_
 rw [hend.1] at ee
 subst ee
 obtain ⟨hbx, hgx, hzx⟩ := box4 w (.int .i64 a.letters) s (.slice Ae n ce) t 77
 have hba := Lib.hid (fun col x v W (hx : x < k) (hW : Below w.heap.size w W) (h1 : col.length = n) (h2 : ∀ u ∈ col, 0 ≤ u ∧ u < 65521) (h3 : RdI W v col) => back_any ok (by omega) col x hx h1 h2 s (.slice Ae n ce) t v W (ra.below hW (Nat.le_refl _)) h3)
 have hki := ok.letters
 have hk4 := ok.pos.2
 rw [hki] at hgx hbx hzx hba ⊢
 have hcle := (cols_inv ok hcols).le
 have hgood := Lib.hid (show ∀ m ∈ a.steps, m.length = n from fun m hm => (ok.mats m hm).1)
 have hst := Lib.hid ok.steps
 replace hcols := Lib.hid hcols
 replace hend := Lib.hid hend
 clear ra ok
 have hm0 := mid_start (w.alloc (.cells #[.int .i64 (k : Nat), s, .slice Ae n ce, t] 77)) n
 have hb0 : Below (w.alloc (.cells #[.int .i64 (k : Nat), s, .slice Ae n ce, t] 77)).heap.size (w.alloc (.cells #[.int .i64 (k : Nat), s, .slice Ae n ce, t] 77)) ((w.alloc (.cells #[.int .i64 (k : Nat), s, .slice Ae n ce, t] 77)).alloc (.cells #[.slice none 0 0, .slice none 0 0, .slice none 0 0] 100)) := (Below.refl _ _).alloc (Nat.le_refl _) _
 have hxg := Lib.hid (fun W (hW : Below (w.alloc (.cells #[.int .i64 (k : Nat), s, .slice Ae n ce, t] 77)).heap.size (w.alloc (.cells #[.int .i64 (k : Nat), s, .slice Ae n ce, t] 77)) W) => cells4 ((hW.block w.heap.size (by omega)).trans hgx))
 have hxb := Lib.hid (fun W (hW : Below (w.alloc (.cells #[.int .i64 (k : Nat), s, .slice Ae n ce, t] 77)).heap.size (w.alloc (.cells #[.int .i64 (k : Nat), s, .slice Ae n ce, t] 77)) W) => Below.then_ hbx hW)
 obtain ⟨q0, q1, q2, q3⟩ := hxg.out _ hb0
 have hre0 := hre.below (hxb.out _ hb0) (Nat.le_refl _)
 have hreo := Lib.hid (RdIo.of hre (hxb.out _ hb0) (O := fun q => ¬ spanF (w.alloc (.cells #[.int .i64 (k : Nat), s, .slice Ae n ce, t] 77)).heap.size (.slice none 0 0) (.slice none 0 0) (.slice none 0 0) [] [] q) (fun q hq h => by have := (hm0.lt h).1; omega))
 have hcs : Hid (∀ o cs out T W, ColsMid n (w.alloc (.cells #[.int .i64 (k : Nat), s, .slice Ae n ce, t] 77)).heap.size (w.alloc (.cells #[.int .i64 (k : Nat), s, .slice Ae n ce, t] 77)).heap.size W o cs out out T → Below (w.alloc (.cells #[.int .i64 (k : Nat), s, .slice Ae n ce, t] 77)).heap.size (w.alloc (.cells #[.int .i64 (k : Nat), s, .slice Ae n ce, t] 77)) W → Bfs newC (kidsC a) out (out.flatMap (kidsC a)) cols → ColsR a n cols (w.alloc (.cells #[.int .i64 (k : Nat), s, .slice Ae n ce, t] 77)) (w.heap.size + 1) W o out (out.flatMap (kidsC a))) := Lib.hid (fun o cs out T W h1 h2 h3 => ⟨h3, ⟨cs, T, by rw [← hzx]; exact h1⟩, h2⟩)
 have hXs := Lib.hid hzx
 have hadd := Lib.hid (col_add (X := (w.alloc (.cells #[.int .i64 (k : Nat), s, .slice Ae n ce, t] 77))) hm0 hn a.end_ (.slice Ae n ce) hreo.out hend.out.1 hend.out.2 hb0 hb0.size)
 rw [hzx] at hadd
 have hb1 := Lib.hid hb0
 clear hm0 hb0 hre0 hreo hre hgx
 replace hxb := hxb
 go_enter Tryd.func104, Tryd.ntmps104
 go_wp2_with fail
 generalize ((w.alloc (.cells #[.int .i64 (k : Nat), s, .slice Ae n ce, t] 77)).alloc (.cells #[.slice none 0 0, .slice none 0 0, .slice none 0 0] 100)) = Y at *
 refine hadd.out.mono ?_; rintro r W1 ⟨rfl, hA⟩
 rw [← hzx] at hA
 generalize hnw : newC [] a.end_ = nw at *
 obtain ⟨q0, q1, q2, q3⟩ := hxg.out W1 (by have := hA.keep; exact this)
 replace hnw := Lib.hid hnw
 replace hA := Lib.hid hA
 clear hadd hb1
 go_upto_if 11 with fail
 go_cut [4] (fun o wx => ∃ out, Hid (ColsR a n cols (w.alloc (.cells #[.int .i64 (k : Nat), s, .slice Ae n ce, t] 77)) (w.heap.size + 1) wx o out (out.flatMap (kidsC a))))
 case first =>
  cases nw with
  | false =>
   have hb := hcols.out.at_skip hnw.out
   obtain ⟨T, hm⟩ := hA.out.no hnw.out
   have hf := Lib.hid (hcs.out _ _ _ _ _ hm hA.out.keep hb)
   clear hb hm
   go_wp2_with fail
   go_meet
   exact ⟨_, hf⟩
  | true =>
   have hb := Lib.hid (hcols.out.at_take hnw.out)
   obtain ⟨T, hm, hro⟩ := hA.out.yes hnw.out
   have hal : Below W1.heap.size W1 (W1.alloc (.cells #[.slice Ae n ce] 22)) := (Below.refl _ _).alloc (Nat.le_refl _) _
   have hown := Lib.hid (own_below hm.own hal)
   have hsz := hA.out.keep.size
   replace hm := Lib.hid hm
   replace hro := Lib.hid hro
   go_wp2_with (at_builtin; (refine wpList_app1 rfl _ _ 59 rfl 22 iR _ 1 24 Tryd.underlying59 hiR hR0 hR1 hR2 rfl (by omega) (by omega) (w.alloc (.cells #[.int .i64 (k : Nat), s, .slice Ae n ce, t] 77)).heap.size (.slice none 0 0) 0 [] rfl hown.out ⟨W1.heap.size, 0, none⟩ [.slice Ae n ce] rfl rfl (news_new W1 [.slice Ae n ce] _) (by simp [Value.oneCell']) (by omega) (by simp at hsz ⊢; omega) ?_); intro A5 c5 w3 hown3 hgrow3 hat3)
   obtain ⟨⟨T', hm3⟩, hf3⟩ := hm.out.snoc hal hro.out hown3 hgrow3 hat3
   have hf := Lib.hid (hcs.out _ _ _ _ _ hm3 (hA.out.keep.trans (hf3.below hsz (fun q hq => (hm.out.lt hq).1))) (by have := hb.out; simpa using this))
   clear hm3 hf3 hown3 hgrow3 hat3
   go_wp2
   go_meet
   exact ⟨_, hf⟩
 case rest =>
  obtain ⟨out0, hR⟩ := hcut
  rename World => w0
  have h00 := Lib.hid (show (out0.drop 0).flatMap (kidsC a) = out0.flatMap (kidsC a) by rw [List.drop_zero])
  have hkk := Lib.hid hst.out
  have hgd := Lib.hid (fun y (hy : y < k) (c : List Int) => (⟨(backL_len (a.steps.getD y []) c).trans (hgood.out _ (getD_mem _ _ (by rw [hst.out]; exact hy))), backL_bd _ _⟩ : (backL (a.steps.getD y []) c).length = n ∧ ∀ u ∈ backL (a.steps.getD y []) c, 0 ≤ u ∧ u < 65521))
  clear hcols hnw hA q0 q1 q2 q3
  generalize (w.alloc (.cells #[.int .i64 (k : Nat), s, .slice Ae n ce, t] 77)) = X at *
  have hpp := hXs
  go_wp2
  go_loopw [4, 5] (fun o i wr => ∃ (q : Nat) (out : List (List Int)), q ≤ out.length ∧ i = .int .i64 q ∧ Hid (ColsR a n cols X (w.heap.size + 1) wr o out ((out.drop q).flatMap (kidsC a)))) (fun _ i _ => cols.length - (intOf i).toNat)
  case atStart => exact ⟨0, out0, Nat.zero_le _, rfl, by rw [h00.out]; exact hR⟩
  case round =>
   obtain ⟨q, out, hq, rfl, hR⟩ := hrel
   obtain ⟨hbf, ⟨cs, T, hm⟩, hB⟩ := hR.out
   obtain ⟨q0, q1, q2, q3⟩ := hxg.out _ hB
   obtain ⟨Ao, co, e0⟩ := own_form hm.own
   subst e0
   by_cases hlt : q < out.length
   ·have hin : Hid (ColsR a n cols X (w.heap.size + 1) wr (.slice Ao out.length co) out (colQ a out q 0)) := Lib.hid (by rw [← colQ_first a out hlt]; exact hR.out)
    have y1 : (q : Int) < (out.length : Int) := by omega
    clear hbf hm hB hR
    go_wp2
    go_loopw [4, 27] (fun o x w2 => ∃ (y : Nat) (out : List (List Int)), y ≤ k ∧ x = .int .i64 y ∧ q < out.length ∧ Hid (ColsR a n cols X (w.heap.size + 1) w2 o out (colQ a out q y))) (fun _ x _ => k - (intOf x).toNat)
    case atStart => exact ⟨0, out, Nat.zero_le _, rfl, hlt, hin⟩
    case round =>
     obtain ⟨y, out, hy, rfl, hqo, hR⟩ := hrel
     obtain ⟨hbf, ⟨cs, T, hm⟩, hB⟩ := hR.out
     obtain ⟨q0, q1, q2, q3⟩ := hxg.out _ hB
     by_cases hyk : y < k
     ·obtain ⟨go, co, u, e0, hgo, -, hcu, hu⟩ := hm.get hqo
      subst e0
      rw [colQ_cons a out q (by rw [hkk.out]; exact hyk)] at hbf
      obtain ⟨hc1, hc2⟩ := hgd.out y hyk (out.getD q [])
      obtain ⟨sp, hsp⟩ := hm.inv
      have hro := hsp.rows (out.getD q []) (getD_mem out [] hqo)
      have hbk := Lib.hid (hba.out (out.getD q []) y u wr.drew hyk (hxb.out _ hB).drew hro.1 hro.2 (hu.below (B := wr.heap.size) (Below.refl _ wr).drew (Nat.le_refl _)))
      have hcq := Lib.hid (fun c => colQ_snoc a out (y + 1) c hqo)
      have hbd := hB.drew
      have hmd := hm.kept (Below.refl wr.heap.size wr).drew
      have hout0 := hB.size
      generalize backL (a.steps.getD y []) (out.getD q []) = c at *
      have x1 : (y : Int) < (k : Int) := by omega
      have x2 : (q : Int) < (out.length : Int) := by omega
      have x0 : (0 : Int) ≤ (q : Int) := by omega
      replace hc1 := Lib.hid hc1
      replace hbf := Lib.hid hbf
      replace hbd := Lib.hid hbd
      replace hmd := Lib.hid hmd
      clear hsp hro hR hB hm hu
      generalize hL : out.length = L at *
      go_wp2
      go_still_tail 6, (by kernel_rfl)
      change wpList _ _ _ _ _ wr.drew
      clear q0 q1 q2 q3 hcu
      generalize wr.drew = wd at *
      go_wp2_with fail
      refine hbk.out.mono ?_; rintro r W1 ⟨⟨v, rfl, hO⟩, hb1⟩
      obtain ⟨Av, cv, ev⟩ := own_form hO
      rw [hc1.out] at ev
      subst ev
      have hm1 := hmd.out.kept hb1
      have hB1 := Below.then_ hbd.out hb1
      have hadd := Lib.hid (col_add hm1 hn c _ (hO.o (by rw [hc1.out]; omega) (fun g _ h2 _ hT => by have := (hmd.out.lt hT).2; omega)) hc1.out hc2 hB1 hB1.size)
      clear hO hb1 hm1 hmd hbk
      generalize hnw : newC out c = nw at *
      have hBs := hB1.size
      replace hB1 := Lib.hid hB1
      go_wp2_with fail
      refine hadd.out.mono ?_; rintro r W2 ⟨rfl, hA⟩
      clear hadd
      cases nw with
      | false =>
       obtain ⟨T2, hm2⟩ := hA.no hnw
       have hfin := Lib.hid (show ColsR a n cols X (w.heap.size + 1) W2 _ out (colQ a out q (y + 1)) from ⟨hbf.out.at_skip hnw, ⟨cs, T2, hm2⟩, hA.keep⟩)
       replace hnw := Lib.hid hnw
       clear hA hm2
       go_wp2
       go_roundw
       case rel => exact ⟨y + 1, out, by omega, by go_num, by rw [hL]; exact hqo, hfin⟩
       case measure => simp [intOf]; omega
      | true =>
       obtain ⟨T2, hm2, hro2⟩ := hA.yes hnw
       have hk2 := Lib.hid hA.keep
       have hb3 := hbf.out.at_take hnw
       rw [← hcq.out] at hb3
       replace hb3 := Lib.hid hb3
       have hal : Below W2.heap.size W2 (W2.alloc (.cells #[.slice Av n cv] 22)) := (Below.refl _ _).alloc (Nat.le_refl _) _
       have hown := Lib.hid (own_below hm2.own hal)
       rw [hL] at hown
       have hsz := hk2.out.size
       replace hm2 := Lib.hid hm2
       replace hro2 := Lib.hid hro2
       have hlen : L + 1 ≤ n := by have := hm2.out.inv; obtain ⟨s2, hs2⟩ := this; have := hs2.le; rw [List.length_append, hL] at this; exact this
       replace hnw := Lib.hid hnw
       replace hL := Lib.hid hL
       clear hA
       go_wp2_with (at_builtin; (refine wpList_app1 rfl _ _ 59 rfl 22 iR _ 1 24 Tryd.underlying59 hiR hR0 hR1 hR2 rfl (by omega) (by omega) X.heap.size (.slice (some ⟨go, 0, none⟩) L co) L cs rfl hown.out ⟨W2.heap.size, 0, none⟩ [.slice Av n cv] rfl rfl (news_new W2 [.slice Av n cv] _) (by simp [Value.oneCell']) (by omega) (by simp; omega) ?_); intro A5 c5 w3 hown3 hgrow3 hat3)
       obtain ⟨⟨T', hm3⟩, hf3⟩ := hm2.out.snoc hal hro2.out (by rw [hL.out]; exact hown3) hgrow3 hat3
       have hfin := Lib.hid (show ColsR a n cols X (w.heap.size + 1) w3 _ (out ++ [c]) (colQ a (out ++ [c]) q (y + 1)) from ⟨hb3.out, ⟨_, T', hm3⟩, hk2.out.trans (hf3.below hsz (fun g hg => (hm2.out.lt hg).1))⟩)
       clear hm3 hf3 hown3 hgrow3 hat3 hown
       go_wp2
       go_roundw
       case rel => exact ⟨y + 1, out ++ [c], by omega, by go_num, by rw [List.length_append]; have := hL.out; omega, hfin⟩
       case measure => simp [intOf]; omega
     ·have hyk2 : y = k := by omega
      rw [colQ_end a out q (by rw [hkk.out]; omega)] at hbf
      have hfin := Lib.hid (show ColsR a n cols X (w.heap.size + 1) wr _ out ((out.drop (q + 1)).flatMap (kidsC a)) from ⟨hbf, ⟨cs, T, hm⟩, hB⟩)
      have x1 : ¬ (y : Int) < (k : Int) := by omega
      obtain ⟨tt, htt⟩ := hbf.begins
      have hle : out.length ≤ cols.length := by rw [htt, List.length_append]; omega
      replace htt := Lib.hid htt
      replace hyk2 := Lib.hid hyk2
      clear hbf hm hB hR
      go_wp2
      go_roundw
      case rel => exact ⟨q + 1, out, by omega, by go_num, hfin⟩
      case measure => simp [intOf]; omega
   ·have hql : q = out.length := by omega
    have y1 : ¬ (q : Int) < (out.length : Int) := by omega
    have hend2 : cols = out := by
     rw [hql, List.drop_eq_nil_of_le (Nat.le_refl _)] at hbf
     exact hbf.at_done
    have hrd := Lib.hid (hm.rd (by rw [← hend2]; omega))
    have hBw := Lib.hid (hxb.out _ hB)
    replace hend2 := Lib.hid hend2
    replace hql := Lib.hid hql
    clear hbf hm hB hR
    go_wp2
    go_ret
    exact ⟨⟨_, rfl, by rw [hend2.out]; exact hrd.out⟩, hBw.out⟩
end Go.Proofs.YtlpldfocljnpnaaDoor
namespace Go.Proofs.YtlpldfocljnpnaaDoor
open Go.RowKit Go.Shelf
theorem own_ty {w : World} {b : Nat} {e : TypeId} {s n : Nat} {v : Value} {xs : List Value} (h : w.ownsRow b e s v n xs) {q : Nat} (hq : v.ownBlock = some q) : ∃ cs, w.heap[q]? = some (.cells cs e (0, 0)) := by
 rcases h.2 with ⟨rfl, _⟩ | ⟨g, cap, cur, rfl, _, hh, _⟩
 ·cases hq
 ·simp only [Value.ownBlock, Option.some.injEq] at hq
  subst hq
  exact ⟨cur, hh⟩
theorem type_ne {w : World} {q : Nat} {cs cs' : Array Value} {e e' : TypeId} {f f' : Nat × Nat} (h : w.heap[q]? = some (.cells cs e f)) (h' : w.heap[q]? = some (.cells cs' e' f')) (hne : e ≠ e') : False := by
 rw [h] at h'
 injection h' with h'
 injection h' with _ ht
 exact hne ht
structure OwnA (W : World) (H g6 k : Nat) (vs ve : Value) (us : List Value) (S E : List Int) (M : List (List (List Int))) : Prop where
 outer : W.ownsRow H 59 1 (.slice (some ⟨g6, 0, none⟩) k k) k us
 start : OwnI W H vs S
 end_ : OwnI W H ve E
 ne : vs.ownBlock = none ∨ vs.ownBlock ≠ ve.ownBlock
 len : M.length = k
 rows : ∀ (y : Nat) (m : List (List Int)) (u : Value), M[y]? = some m → us[y]? = some u → ∃ xs, OwnMv W H u m xs ∧ ∀ x ∈ xs, ∀ q, x.ownBlock = some q → vs.ownBlock ≠ some q ∧ ve.ownBlock ≠ some q
 apart : ∀ (i j : Nat) (u u' : Value), i ≠ j → us[i]? = some u → us[j]? = some u' → u.ownBlock = none ∨ u.ownBlock ≠ u'.ownBlock
namespace OwnA
variable {W W' C D : World} {H g6 g8 k : Nat} {vs ve : Value} {us : List Value} {S E : List Int} {M : List (List (List Int))} {F : Nat → Prop}
theorem ul (h : OwnA W H g6 k vs ve us S E M) : us.length = k := by have := h.outer.1; omega
theorem frame (h : OwnA W H g6 k vs ve us S E M) (hf : Frame F W W') (hn : ∀ q cs T, F q → W.heap[q]? = some (.cells cs T (0, 0)) → T ≠ 3 ∧ T ≠ 22 ∧ T ≠ 59) : OwnA W' H g6 k vs ve us S E M := by
 have key : ∀ {e : TypeId} {s n : Nat} {v : Value} {xs : List Value}, W.ownsRow H e s v n xs → (e = 3 ∨ e = 22 ∨ e = 59) → ∀ q, v.ownBlock = some q → ¬ F q := by
  intro e s n v xs ho he q hq hF
  obtain ⟨cs, hcs⟩ := own_ty ho hq
  obtain ⟨h1, h2, h3⟩ := hn q cs e hF hcs
  rcases he with he | he | he
  ·exact h1 he
  ·exact h2 he
  ·exact h3 he
 refine ⟨hf.owns h.outer (key h.outer (.inr (.inr rfl))), hf.owns h.start (key h.start (.inl rfl)), hf.owns h.end_ (key h.end_ (.inl rfl)), h.ne, h.len, fun y m u hm hu => ?_, h.apart⟩
 obtain ⟨xs, hx, hx2⟩ := h.rows y m u hm hu
 refine ⟨xs, hx.frame hf (fun v hv q hq => ?_), hx2⟩
 rcases List.mem_cons.1 hv with rfl | hv
 ·exact key hx.outer (.inr (.inl rfl)) q hq
 ·obtain ⟨j, hj, rfl⟩ := List.getElem_of_mem hv
  exact key (hx.rows j _ _ (List.getElem?_eq_getElem (by have := hx.len; omega)) (List.getElem?_eq_getElem hj)) (.inl rfl) q hq
theorem kept (h : OwnA W H g6 k vs ve us S E M) (hb : Below W.heap.size W W') : OwnA W' H g6 k vs ve us S E M := h.frame (F := fun _ => False) (Frame.of_below hb) fun _ _ _ hF => hF.elim
theorem start_ (h : OwnA C H g6 k vs ve us S E M) {v' : Value} {S' : List Int} (hD : OwnI D H v' S') (hg : C.grownBy D vs.ownBlock) (hat : v'.ownBlock = vs.ownBlock ∨ v'.ownBlock = some C.heap.size) : OwnA D H g6 k v' ve us S' E M := by
 have hf : Frame (fun q => vs.ownBlock = some q) C D := Frame.grown hg (fun q e => e)
 have hvo : ∀ q, v'.ownBlock = some q → vs.ownBlock = some q ∨ q = C.heap.size := fun q e => by
  rcases hat with h | h
  ·exact .inl (by rw [← h, e])
  ·rw [h] at e; cases e; exact .inr rfl
 have key : ∀ {e : TypeId} {s n : Nat} {v : Value} {xs : List Value}, C.ownsRow H e s v n xs → e ≠ 3 → ∀ q, v.ownBlock = some q → ¬ vs.ownBlock = some q := by
  intro e s n v xs ho he q hq hF
  obtain ⟨cs, hcs⟩ := own_ty ho hq
  obtain ⟨cs', hcs'⟩ := own_ty h.start hF
  exact type_ne hcs hcs' he
 refine ⟨hf.owns h.outer (key h.outer (by decide)), hD, hf.owns h.end_ (fun q hq hF => ?_), ?_, h.len, fun y m u hm hu => ?_, h.apart⟩
 ·rcases h.ne with e | e
  ·rw [e] at hF; cases hF
  ·exact e (by rw [hF, hq])
 ·cases hb : v'.ownBlock with
  | none => exact .inl rfl
  | some q =>
   refine .inr fun e => ?_
   rcases hvo q hb with h1 | h1
   ·rcases h.ne with e2 | e2
    ·rw [e2] at h1; cases h1
    ·exact e2 (by rw [h1, e])
   ·have := (h.end_.lt q e.symm).2; omega
 ·obtain ⟨xs, hx, hx2⟩ := h.rows y m u hm hu
  have hin : ∀ x ∈ xs, ∀ q, x.ownBlock = some q → q < C.heap.size := fun x hx1 q hq => (hx.ge x hx1 q hq).2
  refine ⟨xs, hx.frame hf (fun v hv q hq => ?_), fun x hx1 q hq => ⟨fun e => ?_, (hx2 x hx1 q hq).2⟩⟩
  ·rcases List.mem_cons.1 hv with rfl | hv
   ·exact key hx.outer (by decide) q hq
   ·exact (hx2 v hv q hq).1
  ·rcases hvo q e with h1 | h1
   ·exact (hx2 x hx1 q hq).1 h1
   ·have := hin x hx1 q hq; omega
theorem end__ (h : OwnA C H g6 k vs ve us S E M) {v' : Value} {E' : List Int} (hD : OwnI D H v' E') (hg : C.grownBy D ve.ownBlock) (hat : v'.ownBlock = ve.ownBlock ∨ v'.ownBlock = some C.heap.size) : OwnA D H g6 k vs v' us S E' M := by
 have hf : Frame (fun q => ve.ownBlock = some q) C D := Frame.grown hg (fun q e => e)
 have hvo : ∀ q, v'.ownBlock = some q → ve.ownBlock = some q ∨ q = C.heap.size := fun q e => by
  rcases hat with h | h
  ·exact .inl (by rw [← h, e])
  ·rw [h] at e; cases e; exact .inr rfl
 have key : ∀ {e : TypeId} {s n : Nat} {v : Value} {xs : List Value}, C.ownsRow H e s v n xs → e ≠ 3 → ∀ q, v.ownBlock = some q → ¬ ve.ownBlock = some q := by
  intro e s n v xs ho he q hq hF
  obtain ⟨cs, hcs⟩ := own_ty ho hq
  obtain ⟨cs', hcs'⟩ := own_ty h.end_ hF
  exact type_ne hcs hcs' he
 refine ⟨hf.owns h.outer (key h.outer (by decide)), hf.owns h.start (fun q hq hF => ?_), hD, ?_, h.len, fun y m u hm hu => ?_, h.apart⟩
 ·rcases h.ne with e | e
  ·rw [e] at hq; cases hq
  ·exact e (by rw [hq, hF])
 ·cases hb : vs.ownBlock with
  | none => exact .inl rfl
  | some q =>
   refine .inr fun e => ?_
   rcases hvo q e.symm with h1 | h1
   ·rcases h.ne with e2 | e2
    ·rw [e2] at hb; cases hb
    ·exact e2 (by rw [h1, hb])
   ·have := (h.start.lt q hb).2; omega
 ·obtain ⟨xs, hx, hx2⟩ := h.rows y m u hm hu
  have hin : ∀ x ∈ xs, ∀ q, x.ownBlock = some q → q < C.heap.size := fun x hx1 q hq => (hx.ge x hx1 q hq).2
  refine ⟨xs, hx.frame hf (fun v hv q hq => ?_), fun x hx1 q hq => ⟨(hx2 x hx1 q hq).1, fun e => ?_⟩⟩
  ·rcases List.mem_cons.1 hv with rfl | hv
   ·exact key hx.outer (by decide) q hq
   ·exact (hx2 v hv q hq).2
  ·rcases hvo q e with h1 | h1
   ·exact (hx2 x hx1 q hq).2 h1
   ·have := hin x hx1 q hq; omega
theorem row_ (h : OwnA C H g6 k vs ve us S E M) {y : Nat} {m : List (List Int)} {u u' x : Value} {r : List Int} {xs : List Value} (_hm : M[y]? = some m) (hu : us[y]? = some u) (hxs : OwnMv C H u m xs) (hxo : ∀ x ∈ xs, ∀ q, x.ownBlock = some q → vs.ownBlock ≠ some q ∧ ve.ownBlock ≠ some q) (hr : OwnI C H x r) (hrn : ∀ q, x.ownBlock = some q → vs.ownBlock ≠ some q ∧ ve.ownBlock ≠ some q) (hrx : ∀ z ∈ xs, z.ownBlock = none ∨ z.ownBlock ≠ x.ownBlock)
  (hD : D.ownsRow H 22 1 u' (m.length + 1) (xs ++ [x])) (hg : C.grownBy D u.ownBlock) (hat : u'.ownBlock = u.ownBlock ∨ u'.ownBlock = some C.heap.size) : OwnA (D.setCell ⟨g6, y, none⟩ u') H g6 k vs ve (us.set y u') S E (M.set y (m ++ [r])) := by
 have hul := h.ul
 have hy := (List.getElem?_eq_some_iff.1 hu).1
 have hf : Frame (fun q => u.ownBlock = some q) C D := Frame.grown hg (fun q e => e)
 have key : ∀ {e : TypeId} {s n : Nat} {v : Value} {xs : List Value}, C.ownsRow H e s v n xs → e ≠ 22 → ∀ q, v.ownBlock = some q → ¬ u.ownBlock = some q := by
  intro e s n v xs ho he q hq hF
  obtain ⟨cs, hcs⟩ := own_ty ho hq
  obtain ⟨cs', hcs'⟩ := own_ty hxs.outer hF
  exact type_ne hcs hcs' he
 have hout := hf.owns h.outer (key h.outer (by decide))
 have hst := hout.stored y u'
 obtain ⟨cs6, h6⟩ := own_ty hout (q := g6) rfl
 have hf2 : Frame (fun q => q = g6) D (D.setCell ⟨g6, y, none⟩ u') := Frame.setCell D g6 y u' rfl
 have key2 : ∀ {e : TypeId} {s n : Nat} {v : Value} {xs : List Value}, D.ownsRow H e s v n xs → e ≠ 59 → ∀ q, v.ownBlock = some q → ¬ q = g6 := by
  intro e s n v xs ho he q hq hF
  subst hF
  obtain ⟨cs, hcs⟩ := own_ty ho hq
  exact type_ne hcs h6 he
 have both : ∀ {v : Value} {l : List Int}, OwnI C H v l → OwnI (D.setCell ⟨g6, y, none⟩ u') H v l := fun ho => hf2.owns (hf.owns ho (key ho (by decide))) (key2 (hf.owns ho (key ho (by decide))) (by decide))
 have hmv := OwnMv.snoc hxs hr hrx hD rfl hg
 refine ⟨hst.1, both h.start, both h.end_, h.ne, by rw [List.length_set]; exact h.len, fun j m2 u2 hm2 hu2 => ?_, fun i j a b hij ha hb => ?_⟩
 ·by_cases hj : y = j
  ·subst hj
   rw [List.getElem?_set_self (by rw [h.len]; omega)] at hm2
   rw [List.getElem?_set_self hy] at hu2
   cases hm2; cases hu2
   refine ⟨xs ++ [x], hmv.frame hf2 (fun v hv q hq => ?_), fun z hz q hq => ?_⟩
   ·rcases List.mem_cons.1 hv with rfl | hv
    ·exact key2 hmv.outer (by decide) q hq
    ·obtain ⟨j, hj, rfl⟩ := List.getElem_of_mem hv
     exact key2 (hmv.rows j _ _ (List.getElem?_eq_getElem (by have := hmv.len; omega)) (List.getElem?_eq_getElem hj)) (by decide) q hq
   ·rcases List.mem_append.1 hz with hz | hz
    ·exact hxo z hz q hq
    ·rw [List.mem_singleton.1 hz] at hq; exact hrn q hq
  ·rw [List.getElem?_set_ne hj] at hm2 hu2
   obtain ⟨ys, hy1, hy2⟩ := h.rows j m2 u2 hm2 hu2
   have h3 : OwnMv D H u2 m2 ys := hy1.frame hf (fun v hv q hq => by
    rcases List.mem_cons.1 hv with rfl | hv
    ·intro e
     rcases h.apart y j u v hj hu hu2 with h0 | h0
     ·rw [h0] at e; cases e
     ·exact h0 (by rw [e, hq])
    ·obtain ⟨j, hj, rfl⟩ := List.getElem_of_mem hv
     exact key (hy1.rows j _ _ (List.getElem?_eq_getElem (by have := hy1.len; omega)) (List.getElem?_eq_getElem hj)) (by decide) q hq)
   refine ⟨ys, h3.frame hf2 (fun v hv q hq => ?_), hy2⟩
   rcases List.mem_cons.1 hv with rfl | hv
   ·exact key2 h3.outer (by decide) q hq
   ·obtain ⟨j, hj, rfl⟩ := List.getElem_of_mem hv
    exact key2 (h3.rows j _ _ (List.getElem?_eq_getElem (by have := h3.len; omega)) (List.getElem?_eq_getElem hj)) (by decide) q hq
 ·have one : ∀ j b, y ≠ j → us[j]? = some b → u'.ownBlock = none ∨ u'.ownBlock ≠ b.ownBlock := fun j b hj hb => by
   rcases hat with e | e
   ·rw [e]; exact h.apart y j u b hj hu hb
   ·refine .inr fun e2 => ?_
    rw [e] at e2
    have hjm : j < M.length := by have := (List.getElem?_eq_some_iff.1 hb).1; rw [h.len]; omega
    obtain ⟨ys, hy1, -⟩ := h.rows j _ b (List.getElem?_eq_getElem hjm) hb
    have := (hy1.outer.lt _ e2.symm).2; omega
  by_cases hi : y = i
  ·subst hi
   rw [List.getElem?_set_self hy] at ha
   rw [List.getElem?_set_ne hij] at hb
   cases ha
   exact one j b hij hb
  ·rw [List.getElem?_set_ne hi] at ha
   by_cases hj : y = j
   ·subst hj
    rw [List.getElem?_set_self hy] at hb
    cases hb
    rcases one i a hi ha with h0 | h0
    ·by_cases ha0 : a.ownBlock = none
     ·exact .inl ha0
     ·exact .inr (by rw [h0]; exact ha0)
    ·exact .inr (Ne.symm h0)
   ·rw [List.getElem?_set_ne hj] at hb
    exact h.apart i j a b hij ha hb
theorem base (h : OwnA W H g6 k vs ve us S E M) {H' : Nat} (hH : H' ≤ H) : OwnA W H' g6 k vs ve us S E M :=
 ⟨own_base h.outer hH, h.start.base hH, h.end_.base hH, h.ne, h.len, fun y m u hm hu => by
  obtain ⟨xs, hx, hx2⟩ := h.rows y m u hm hu
  exact ⟨xs, ⟨own_base hx.outer hH, fun j r u hr hu => (hx.rows j r u hr hu).base hH, hx.apart⟩, hx2⟩, h.apart⟩
theorem rd (h : OwnA W H g6 k vs ve us S E M) (hk : k ≤ 1000000) (hS : S.length ≤ 1000000) (hE : E.length ≤ 1000000) (hM : ∀ m ∈ M, m.length ≤ 1000000 ∧ ∀ r ∈ m, r.length ≤ 1000000) (l : Int) : RdA W vs ve (.slice (some ⟨g6, 0, none⟩) k k) { letters := l, start := S, end_ := E, steps := M } := by
 have hul := h.ul
 refine ⟨h.start.rd (by omega), h.end_.rd (by omega), us, ?_, by rw [hul]; exact h.len.symm, fun j m u hm hu => ?_⟩
 ·have := own_RdV h.outer (by omega); exact this
 ·obtain ⟨xs, hx, -⟩ := h.rows j m u hm hu
  have hmm := hM m (List.mem_of_getElem? hm)
  exact hx.m.rd (by omega) (fun r hr => by have := hmm.2 r hr; omega)
end OwnA
theorem OwnA.box {W : World} {H g6 k g8 : Nat} {vs ve : Value} {us : List Value} {S E : List Int} {M : List (List (List Int))} (h : OwnA W H g6 k vs ve us S E M) {cs : Array Value} (hb : W.heap[g8]? = some (.cells cs 25 (0, 0))) (o : Nat) (v : Value) : OwnA (W.setCell ⟨g8, o, none⟩ v) H g6 k vs ve us S E M :=
 h.frame (F := fun q => q = g8) (Frame.setCell W g8 o v rfl) fun q cs' T hq hT => by
  subst hq
  rw [hb] at hT
  cases hT
  exact ⟨by decide, by decide, by decide⟩
theorem OwnA.start0 {W : World} {H g6 k : Nat} (hg : W.ownsRow H 59 1 (.slice (some ⟨g6, 0, none⟩) k k) k (List.replicate k (.slice none 0 0))) : OwnA W H g6 k (.slice none 0 0) (.slice none 0 0) (List.replicate k (.slice none 0 0)) [] [] (List.replicate k []) := by
 refine ⟨hg, OwnI_nil _ _, OwnI_nil _ _, .inl rfl, by simp, fun y m u hm hu => ?_, fun i j u u' _ hu _ => ?_⟩
 ·rw [List.getElem?_replicate] at hm hu
  split at hm
  ·cases hm
   rw [if_pos (by assumption)] at hu
   cases hu
   exact ⟨[], OwnMv_nil _ _, fun x hx => by cases hx⟩
  ·cases hm
 ·rw [List.getElem?_replicate] at hu
  split at hu
  ·cases hu; exact .inl rfl
  ·cases hu
end Go.Proofs.YtlpldfocljnpnaaDoor
namespace Go.Proofs.YtlpldfocljnpnaaDoor
open Go.RowKit Go.Shelf
attribute [local go_sem] Oper.semAt_some
theorem froz {W : World} {g : Nat} {cs : Array Value} {T : TypeId} (h : W.heap[g]? = some (.cells cs T (0, 0))) (o : Nat) : W.frozen? ⟨g, o, none⟩ = false := by unfold World.frozen?; rw [h]; simp
theorem infoRR : (Tryd.prog.info? 59).map (fun i => (i.zero, i.size, i.bytes)) = some (some (.slice none 0 0), 1, 24) := by kernel_rfl
theorem infoS : (Tryd.prog.info? 9).map (fun i => (i.zero, i.size, i.bytes)) = some (some (.string ⟨#[]⟩), 1, 16) := by kernel_rfl
theorem no_exit (K : Act → World → Prop) (Q : Exit → Act → World → Prop) : ∀ e a w, Exit.then K (fun _ _ _ => False) e a w → Exit.then K Q e a w := by
 intro e a w h
 cases e with
 | normal => exact h
 | _ => exact h.elim
theorem no_exit_in (id : Nat) (K : Act → World → Prop) (Q : Exit → Act → World → Prop) : ∀ e a w, Exit.inBlock id (Exit.then K (fun _ _ _ => False)) e a w → Exit.inBlock id (Exit.then K Q) e a w := by
 intro e a w h
 cases e with
 | exit j =>
  simp only [Exit.inBlock] at h ⊢
  split at h
  ·rename_i hj
   first
   | rw [if_pos hj]; exact h
   | exact h
  ·exact h.elim
 | normal => exact h
 | _ => exact h.elim
def leFrom (n : Nat) : Code → Option Code
 | .seq a b => match a with
  | .region k _ _ => if k == n then some (.seq a b) else leFrom n b
  | _ => leFrom n b
 | .scope c => leFrom n c
 | .block _ c => leFrom n c
 | _ => none
noncomputable def leT (n : Nat) : Code := ((Tryd.f54).body.bind (leFrom n)).getD .skip
def stW (q : Nat) : List Int := (List.range q).map fun i => if i = 0 then 1 else 0
theorem stW_len (q : Nat) : (stW q).length = q := by simp [stW]
theorem stW_succ (q : Nat) : (stW q ++ [0]).set 0 1 = stW (q + 1) := by
 cases q with
 | zero => rfl
 | succ q =>
  unfold stW
  rw [List.range_succ (n := q + 1), List.map_append, List.map_singleton, if_neg (by omega), List.set_append]
  rw [if_pos (by simp)]
  congr 1
  rw [List.range_succ_eq_map, List.map_cons]
  rfl
def spW (F : List Nat → Nat → List Int) (ws : List (List Nat)) (k q y : Nat) : List (List (List Int)) := (List.range k).map fun x => (ws.take (if x < y then q + 1 else q)).map fun w => F w x
theorem spW_get {F : List Nat → Nat → List Int} {ws : List (List Nat)} {k q y : Nat} (h : y < k) : (spW F ws k q y)[y]? = some ((ws.take q).map fun w => F w y) := by
 rw [spW, List.getElem?_map, List.getElem?_range h, Option.map_some, if_neg (Nat.lt_irrefl y)]
theorem spW_set {F : List Nat → Nat → List Int} {ws : List (List Nat)} {k q y : Nat} (hq : q < ws.length) : (spW F ws k q y).set y ((ws.take q).map (fun w => F w y) ++ [F (ws.getD q []) y]) = spW F ws k q (y + 1) := by
 apply List.ext_getElem (by simp [spW])
 intro j h1 h2
 rw [List.getElem_set]
 simp only [spW, List.getElem_map, List.getElem_range]
 by_cases e : y = j
 ·subst e
  rw [if_pos rfl, if_pos (by omega)]
  exact map_take_snoc (fun w => F w y) ws [] hq
 ·rw [if_neg e]
  by_cases h : j < y
  ·rw [if_pos h, if_pos (by omega)]
  ·rw [if_neg h, if_neg (by omega)]
theorem spW_end (F : List Nat → Nat → List Int) (ws : List (List Nat)) (k q : Nat) : spW F ws k q k = spW F ws k (q + 1) 0 := by
 refine List.map_congr_left fun x hx => ?_
 rw [if_pos (List.mem_range.1 hx), if_neg (Nat.not_lt_zero x)]
theorem spW_zero (F : List Nat → Nat → List Int) (ws : List (List Nat)) (k : Nat) : spW F ws k 0 0 = List.replicate k [] := by
 apply List.ext_getElem (by simp [spW])
 intro j h1 h2
 simp [spW]
theorem spW_all (F : List Nat → Nat → List Int) (ws : List (List Nat)) (k : Nat) : spW F ws k ws.length 0 = (List.range k).map fun x => ws.map fun w => F w x := by
 refine List.map_congr_left fun x hx => ?_
 rw [if_neg (Nat.not_lt_zero x), List.take_of_length_le (Nat.le_refl _)]
structure LeaL (a : Aut) (n : Nat) (ws : List (List Nat)) (U : World) (Al : Option Addr) : Prop where
 get : ∀ q, q < ws.length → ∃ b A c, Al = some ⟨b, 0, none⟩ ∧ U.cell? ⟨b, q * 2, none⟩ = some (.string (wordB (ws.getD q []))) ∧ U.cell? ⟨b, q * 2 + 1, none⟩ = some (.slice A n c) ∧ RdI U (.slice A n c) (rowW a (ws.getD q []))
theorem choC_get : ∀ (l : List (List Nat × Value)) (q : Nat), q < l.length → (choC l)[q * 2]? = some (.string (wordB (l.getD q ([], undef)).1)) ∧ (choC l)[q * 2 + 1]? = some (l.getD q ([], undef)).2
 | [], q, h => by simp at h
 | p :: t, 0, h => by simp [choC]
 | p :: t, q + 1, h => by
  have := choC_get t q (by simpa using h)
  rw [choC, show (q + 1) * 2 = q * 2 + 1 + 1 by omega, List.getElem?_cons_succ, List.getElem?_cons_succ, List.getElem?_cons_succ, List.getElem?_cons_succ, this.1, this.2, List.getD_cons_succ]
  exact ⟨rfl, rfl⟩
theorem LeaL.of {a : Aut} {n base : Nat} {ws : List (List Nat)} {U : World} {Al : Option Addr} {cl : Nat} {todo : List (List Nat × Value)} {O : Nat → Prop} (ht : todo.map Prod.fst = ws) (ho : U.ownsRow base 107 2 (.slice Al ws.length cl) todo.length (choC todo)) (hr : ∀ q ∈ todo, RdIo O U q.2 (rowW a q.1)) (hn : ∀ w, (rowW a w).length = n) : LeaL a n ws U Al := by
 have hl : todo.length = ws.length := by rw [← ht, List.length_map]
 refine ⟨fun q hq => ?_⟩
 obtain ⟨g, c', e, -, -⟩ := ho.form (by omega)
 simp only [Value.slice.injEq] at e
 obtain ⟨rfl, -, rfl⟩ := e
 rw [← hl] at ho
 have h1 := choC_get todo q (by omega)
 have hln := choC_len todo
 have hmem : todo.getD q ([], undef) ∈ todo := getD_mem todo _ (by omega)
 have hw : (todo.getD q ([], undef)).1 = ws.getD q [] := by
  rw [← ht, List.getD_eq_getElem?_getD, List.getD_eq_getElem?_getD, List.getElem?_map, List.getElem?_eq_getElem (by omega)]; rfl
 have h2 := (hr _ hmem).rd
 rw [hw] at h2 h1
 obtain ⟨A, c, e, -, -⟩ := h2.cell_
 rw [hn] at e
 refine ⟨g, A, c, rfl, ?_, ?_, by rw [← e]; exact h2⟩
 ·rw [ho.cellAt (q * 2) (by omega), h1.1]
 ·rw [ho.cellAt (q * 2 + 1) (by omega), h1.2, e]
theorem grown_heap {C D : World} {B s n : Nat} {e T : TypeId} {v : Value} {xs : List Value} (ho : C.ownsRow B e s v n xs) (hg : C.grownBy D v.ownBlock) {g : Nat} {cs : Array Value} (h : C.heap[g]? = some (.cells cs T (0, 0))) (hne : T ≠ e) : D.heap[g]? = some (.cells cs T (0, 0)) := by
 rw [hg.block g (lt_of_block h) (fun hq => ?_)]
 ·exact h
 ·obtain ⟨cs', h'⟩ := own_ty ho hq.symm
  exact type_ne h h' hne
theorem set_heap {W : World} {g q : Nat} {cs cs' : Array Value} {T T' : TypeId} (h : W.heap[g]? = some (.cells cs T (0, 0))) (h' : W.heap[q]? = some (.cells cs' T' (0, 0))) (hne : T ≠ T') (o : Nat) (v : Value) : (W.setCell ⟨q, o, none⟩ v).heap[g]? = some (.cells cs T (0, 0)) := by
 rw [Below.heap_setCell _ _ _ _ (fun e => ?_)]
 ·exact h
 ·have e : g = q := e
  subst e
  exact type_ne h h' hne
structure LeaS (U : World) (g6 g8 k : Nat) (vs ve vw : Value) (us : List Value) (S E : List Int) (M : List (List (List Int))) (wd : List Value) (W : World) : Prop where
 low : Below U.heap.size U W
 box : W.heap[g8]? = some (.cells #[.int .i64 (k : Nat), vs, ve, .slice (some ⟨g6, 0, none⟩) k k] 25 (0, 0))
 lo : U.heap.size ≤ g8
 own : OwnA W U.heap.size g6 k vs ve us S E M
 wds : W.ownsRow U.heap.size 9 1 vw wd.length wd
def KeptC (W W' : World) : Prop := ∀ (g : Nat) (cs : Array Value), W.heap[g]? = some (.cells cs 107 (0, 0)) → W'.heap[g]? = some (.cells cs 107 (0, 0))
namespace LeaS
variable {U W C D : World} {g6 g8 k : Nat} {vs ve vw : Value} {us : List Value} {S E : List Int} {M : List (List (List Int))} {wd : List Value}
theorem kept (h : LeaS U g6 g8 k vs ve vw us S E M wd W) (hb : Below W.heap.size W C) : LeaS U g6 g8 k vs ve vw us S E M wd C :=
 ⟨Below.then_ h.low hb, heap_keep h.box hb, h.lo, h.own.kept hb, own_below h.wds hb⟩
theorem word (h : LeaS U g6 g8 k vs ve vw us S E M wd W) (hC : Below W.heap.size W C) {v' x : Value} (hD : D.ownsRow U.heap.size 9 1 v' (wd.length + 1) (wd ++ [x])) (hg : C.grownBy D vw.ownBlock) : LeaS U g6 g8 k vs ve v' us S E M (wd ++ [x]) D ∧ KeptC W D := by
 have hc := h.kept hC
 refine ⟨⟨hc.low.grown hg hc.low.size (fun q hq => (hc.wds.lt q hq).1), grown_heap hc.wds hg hc.box (by decide), h.lo, ?_, by rw [List.length_append, List.length_singleton]; exact hD⟩, fun g cs h2 => grown_heap hc.wds hg (heap_keep h2 hC) (by decide)⟩
 refine hc.own.frame (F := fun q => vw.ownBlock = some q) (Frame.grown hg (fun q e => e)) fun q cs T hF hT => ?_
 obtain ⟨cs', h'⟩ := own_ty hc.wds hF
 rw [h'] at hT
 cases hT
 exact ⟨by decide, by decide, by decide⟩
theorem start1 (h : LeaS U g6 g8 k vs ve vw us S E M wd W) (hC : Below W.heap.size W C) {v' : Value} {S' : List Int} (hD : OwnI D U.heap.size v' S') (hg : C.grownBy D vs.ownBlock) (hat : v'.ownBlock = vs.ownBlock ∨ v'.ownBlock = some C.heap.size) :
  D.heap[g8]? = some (.cells #[.int .i64 (k : Nat), vs, ve, .slice (some ⟨g6, 0, none⟩) k k] 25 (0, 0)) ∧ LeaS U g6 g8 k v' ve vw us S' E M wd (D.setCell ⟨g8, 1, none⟩ v') ∧ KeptC W (D.setCell ⟨g8, 1, none⟩ v') := by
 have hc := h.kept hC
 have hbx : D.heap[g8]? = some (.cells #[.int .i64 (k : Nat), vs, ve, .slice (some ⟨g6, 0, none⟩) k k] 25 (0, 0)) := grown_heap hc.own.start hg hc.box (by decide)
 have hlow := hc.low.grown hg hc.low.size (fun q hq => (hc.own.start.lt q hq).1)
 have ho := hc.own.start_ hD hg hat
 have hw : D.ownsRow U.heap.size 9 1 vw wd.length wd := hc.wds.kept hg (own_ne hc.wds hc.own.start (by decide))
 refine ⟨hbx, ⟨hlow.setCell (p := ⟨g8, 1, none⟩) h.lo _, ?_, h.lo, ho.box hbx 1 v', ?_⟩, fun g cs h2 => ?_⟩
 ·have := heap_set1 (k := 1) v' hbx
  simpa using this
 ·exact own_of_block hw fun q hq => Below.heap_setCell _ _ _ _ (fun e => by
   obtain ⟨cs', h'⟩ := own_ty hw hq
   rw [show q = g8 from e] at h'
   exact type_ne h' hbx (by decide))
 ·exact set_heap (grown_heap hc.own.start hg (heap_keep h2 hC) (by decide)) hbx (by decide) _ _
theorem start2 {gS n c : Nat} (h : LeaS U g6 g8 k (.slice (some ⟨gS, 0, none⟩) n c) ve vw us S E M wd W) (j : Nat) (x : Int) :
  LeaS U g6 g8 k (.slice (some ⟨gS, 0, none⟩) n c) ve vw us (S.set j x) E M wd (W.setCell ⟨gS, j, none⟩ (.int .i64 x)) ∧ KeptC W (W.setCell ⟨gS, j, none⟩ (.int .i64 x)) := by
 obtain ⟨cs, hcs⟩ := own_ty h.own.start (q := gS) rfl
 have hg : W.grownBy (W.setCell ⟨gS, j, none⟩ (.int .i64 x)) (Value.slice (some ⟨gS, 0, none⟩) n c).ownBlock := ⟨rfl, rfl, rfl, by simp, fun q _ hq => Below.heap_setCell _ _ _ _ (fun e => hq (by rw [show q = gS from e]; rfl))⟩
 refine ⟨⟨h.low.grown hg h.low.size (fun q hq => (h.own.start.lt q hq).1), set_heap h.box hcs (by decide) _ _, h.lo, h.own.start_ (h.own.start.put j x) hg (.inl rfl), h.wds.kept hg (own_ne h.wds h.own.start (by decide))⟩, fun g cs' h2 => set_heap h2 hcs (by decide) _ _⟩
theorem end1 (h : LeaS U g6 g8 k vs ve vw us S E M wd W) (hC : Below W.heap.size W C) {v' : Value} {E' : List Int} (hD : OwnI D U.heap.size v' E') (hg : C.grownBy D ve.ownBlock) (hat : v'.ownBlock = ve.ownBlock ∨ v'.ownBlock = some C.heap.size) :
  D.heap[g8]? = some (.cells #[.int .i64 (k : Nat), vs, ve, .slice (some ⟨g6, 0, none⟩) k k] 25 (0, 0)) ∧ LeaS U g6 g8 k vs v' vw us S E' M wd (D.setCell ⟨g8, 2, none⟩ v') ∧ KeptC W (D.setCell ⟨g8, 2, none⟩ v') := by
 have hc := h.kept hC
 have hbx : D.heap[g8]? = some (.cells #[.int .i64 (k : Nat), vs, ve, .slice (some ⟨g6, 0, none⟩) k k] 25 (0, 0)) := grown_heap hc.own.end_ hg hc.box (by decide)
 have hlow := hc.low.grown hg hc.low.size (fun q hq => (hc.own.end_.lt q hq).1)
 have ho := hc.own.end__ hD hg hat
 have hw : D.ownsRow U.heap.size 9 1 vw wd.length wd := hc.wds.kept hg (own_ne hc.wds hc.own.end_ (by decide))
 refine ⟨hbx, ⟨hlow.setCell (p := ⟨g8, 2, none⟩) h.lo _, ?_, h.lo, ho.box hbx 2 v', ?_⟩, fun g cs h2 => ?_⟩
 ·have := heap_set1 (k := 2) v' hbx
  simpa using this
 ·exact own_of_block hw fun q hq => Below.heap_setCell _ _ _ _ (fun e => by
   obtain ⟨cs', h'⟩ := own_ty hw hq
   rw [show q = g8 from e] at h'
   exact type_ne h' hbx (by decide))
 ·exact set_heap (grown_heap hc.own.end_ hg (heap_keep h2 hC) (by decide)) hbx (by decide) _ _
theorem row1 (h : LeaS U g6 g8 k vs ve vw us S E M wd W) {y : Nat} {m : List (List Int)} (hm : M[y]? = some m) :
  ∃ u xs, W.cell? ⟨g6, y, none⟩ = some u ∧ W.ownsRow U.heap.size 22 1 u m.length xs ∧
   ∀ (C D : World) (x u' : Value) (r : List Int), Below W.heap.size W C → OwnI C W.heap.size x r → D.ownsRow U.heap.size 22 1 u' (m.length + 1) (xs ++ [x]) → C.grownBy D u.ownBlock → (u'.ownBlock = u.ownBlock ∨ u'.ownBlock = some C.heap.size) →
    D.heap[g8]? = some (.cells #[.int .i64 (k : Nat), vs, ve, .slice (some ⟨g6, 0, none⟩) k k] 25 (0, 0)) ∧ D.cell? ⟨g6, y, none⟩ = some u ∧ D.frozen? ⟨g6, y, none⟩ = false ∧ LeaS U g6 g8 k vs ve vw (us.set y u') S E (M.set y (m ++ [r])) wd (D.setCell ⟨g6, y, none⟩ u') ∧ KeptC W (D.setCell ⟨g6, y, none⟩ u') := by
 have hul := h.own.ul
 have hml := h.own.len
 have hy := (List.getElem?_eq_some_iff.1 hm).1
 have hu : us[y]? = some us[y] := List.getElem?_eq_getElem (by omega)
 obtain ⟨xs, hx, hxo⟩ := h.own.rows y m _ hm hu
 refine ⟨us[y], xs, by rw [h.own.outer.cellAt y (by omega)]; exact hu, hx.outer, fun C D x u' r hC hr hD hg hat => ?_⟩
 have hc := h.kept hC
 obtain ⟨xs', hx', hxo'⟩ := hc.own.rows y m _ hm hu
 have hxC := hx.kept hC
 have hout : D.ownsRow U.heap.size 59 1 (.slice (some ⟨g6, 0, none⟩) k k) k us := hc.own.outer.kept hg (own_ne hc.own.outer hxC.outer (by decide))
 have hge : ∀ q, x.ownBlock = some q → W.heap.size ≤ q := fun q hq => (hr.lt q hq).1
 have hbx : D.heap[g8]? = some (.cells #[.int .i64 (k : Nat), vs, ve, .slice (some ⟨g6, 0, none⟩) k k] 25 (0, 0)) := grown_heap hxC.outer hg hc.box (by decide)
 have hlow := hc.low.grown hg hc.low.size (fun q hq => (hxC.outer.lt q hq).1)
 obtain ⟨cs6, h6⟩ := own_ty hout (q := g6) rfl
 have hrow := hc.own.row_ hm hu hxC hxo (hr.base h.low.size) (fun q hq => ⟨fun e => by have := hge q hq; have := (h.own.start.lt q e).2; omega, fun e => by have := hge q hq; have := (h.own.end_.lt q e).2; omega⟩) (fun z hz => ?_) hD hg hat
 ·refine ⟨hbx, by rw [hout.cellAt y (by omega)]; exact hu, hout.frozenAt y, ⟨hlow.setCell (p := ⟨g6, y, none⟩) (hout.lt g6 rfl).1 _, set_heap hbx h6 (by decide) _ _, h.lo, hrow, ?_⟩, fun g cs h2 => set_heap (grown_heap hxC.outer hg (heap_keep h2 hC) (by decide)) h6 (by decide) _ _⟩
  have hw : D.ownsRow U.heap.size 9 1 vw wd.length wd := hc.wds.kept hg (own_ne hc.wds hxC.outer (by decide))
  exact own_of_block hw fun q hq => Below.heap_setCell _ _ _ _ (fun e => by
   obtain ⟨cs', h'⟩ := own_ty hw hq
   rw [show q = g6 from e] at h'
   exact type_ne h' h6 (by decide))
 ·by_cases hz0 : z.ownBlock = none
  ·exact .inl hz0
  ·refine .inr fun e => ?_
   obtain ⟨q, hq⟩ := Option.ne_none_iff_exists'.1 hz0
   have h1 := (hx.ge z hz q hq).2
   have h2 := hge q (by rw [← e, hq])
   omega
end LeaS
theorem lea_start {U Z : World} {g6 g8 k : Nat} {r : Array Value} (low : Below U.heap.size U Z) (s6 : Z.heap[g6]? = some (.cells (madeCells #[.slice none 0 0] k) 59 (0, 0))) (s8 : Z.heap[g8]? = some (.cells r 25 (0, 0))) (hr : r.size = 4) (h6 : U.heap.size ≤ g6) (h8 : U.heap.size ≤ g8) (hk : k ≤ 1000) :
  LeaS U g6 g8 k (.slice none 0 0) (.slice none 0 0) (.slice none 0 0) (List.replicate k (.slice none 0 0)) [] [] (List.replicate k []) [] ((((Z.setCell ⟨g8, 0, none⟩ (.int .i64 (k : Nat))).setCell ⟨g8, 1, none⟩ (.slice none 0 0)).setCell ⟨g8, 2, none⟩ (.slice none 0 0)).setCell ⟨g8, 3, none⟩ (.slice (some ⟨g6, 0, none⟩) k k)) := by
 have ho : Z.ownsRow U.heap.size 59 1 (.slice (some ⟨g6, 0, none⟩) k k) k (List.replicate k (.slice none 0 0)) :=
  ⟨by simp, .inr ⟨g6, k, _, rfl, h6, s6, Nat.le_refl _, by unfold maxLen; omega, by rw [size_madeCells]; omega, by rw [toList_madeCells_one, List.take_of_length_le (by simp)]⟩⟩
 have hA := OwnA.start0 ho
 have e0 := heap_set1 (.int .i64 (k : Nat)) (k := 0) s8
 have e1 := heap_set1 (.slice none 0 0) (k := 1) e0
 have e2 := heap_set1 (.slice none 0 0) (k := 2) e1
 have e3 := heap_set1 (.slice (some ⟨g6, 0, none⟩) k k) (k := 3) e2
 have hr4 : (((r.setIfInBounds 0 (.int .i64 (k : Nat))).setIfInBounds 1 (.slice none 0 0)).setIfInBounds 2 (.slice none 0 0)).setIfInBounds 3 (.slice (some ⟨g6, 0, none⟩) k k) = #[.int .i64 (k : Nat), .slice none 0 0, .slice none 0 0, .slice (some ⟨g6, 0, none⟩) k k] := by
  obtain ⟨l⟩ := r
  match l, hr with
  | [a, b, c, d], _ => rfl
 rw [hr4] at e3
 exact ⟨(((low.setCell (p := ⟨g8, 0, none⟩) h8 _).setCell (p := ⟨g8, 1, none⟩) h8 _).setCell (p := ⟨g8, 2, none⟩) h8 _).setCell (p := ⟨g8, 3, none⟩) h8 _, e3, h8, (((hA.box s8 _ _).box e0 _ _).box e1 _ _).box e2 _ _, World.ownsRow_nil _ _ _ _⟩
theorem lea_end {U W : World} {g6 g8 k g1 g2 g3 D : Nat} {vs ve vw : Value} {us : List Value} {S E : List Int} {M : List (List (List Int))} {wd : List Value} (hS : LeaS U g6 g8 k vs ve vw us S E M wd W)
  {r1 r2 r3 : Array Value} (h1 : U.heap[g1]? = some (.cells r1 25 (0, 0))) (h2 : U.heap[g2]? = some (.cells r2 32 (0, 0))) (h3 : U.heap[g3]? = some (.cells r3 4 (0, 0))) (hD : U.heap[D]? = some (.deferred (some [])))
  (z1 : r1.size = 4) (z2 : r2.size = 1) (z3 : r3.size = 1) (E1 : World) (hE : ((((((W.setCell ⟨g1, 0, none⟩ (.int .i64 (k : Nat))).setCell ⟨g1, 1, none⟩ vs).setCell ⟨g1, 2, none⟩ ve).setCell ⟨g1, 3, none⟩ (.slice (some ⟨g6, 0, none⟩) k k)).setCell ⟨g2, 0, none⟩ vw).setCell ⟨g3, 0, none⟩ (.bool true)) = E1) :
  E1.heap[D]? = some (.deferred (some [])) ∧ (E1.putObj D (.deferred none)).heap[g1]? = some (.cells #[.int .i64 (k : Nat), vs, ve, .slice (some ⟨g6, 0, none⟩) k k] 25 (0, 0)) ∧ (E1.putObj D (.deferred none)).heap[g2]? = some (.cells #[vw] 32 (0, 0)) ∧ (E1.putObj D (.deferred none)).heap[g3]? = some (.cells #[.bool true] 4 (0, 0)) ∧
   OwnA (E1.putObj D (.deferred none)) U.heap.size g6 k vs ve us S E M ∧ (E1.putObj D (.deferred none)).ownsRow U.heap.size 9 1 vw wd.length wd ∧ Frame (fun q => q = g1 ∨ q = g2 ∨ q = g3 ∨ q = D ∨ U.heap.size ≤ q) U (E1.putObj D (.deferred none)) := by
 have k1 := heap_keep h1 hS.low
 have k2 := heap_keep h2 hS.low
 have k3 := heap_keep h3 hS.low
 have kD := heap_keep hD hS.low
 have n12 : g1 ≠ g2 := fun e => by subst e; exact type_ne h1 h2 (by decide)
 have n13 : g1 ≠ g3 := fun e => by subst e; exact type_ne h1 h3 (by decide)
 have n23 : g2 ≠ g3 := fun e => by subst e; exact type_ne h2 h3 (by decide)
 have nD : ∀ {g : Nat} {cs : Array Value} {T : TypeId}, U.heap[g]? = some (.cells cs T (0, 0)) → g ≠ D := fun h e => by
  subst e; rw [h] at hD; cases hD
 have d1 := nD h1
 have d2 := nD h2
 have d3 := nD h3
 have hF1 : Frame (fun q => q = g1 ∨ q = g2 ∨ q = g3) W E1 := by
  have st : ∀ {A B C : World}, Frame (fun q => q = g1 ∨ q = g2 ∨ q = g3) A B → Frame (fun q => q = g1 ∨ q = g2 ∨ q = g3) B C → Frame (fun q => q = g1 ∨ q = g2 ∨ q = g3) A C := fun a b => a.trans b (fun _ h => .inl h)
  have one : ∀ (A : World) (g o : Nat) (v : Value), (g = g1 ∨ g = g2 ∨ g = g3) → Frame (fun q => q = g1 ∨ q = g2 ∨ q = g3) A (A.setCell ⟨g, o, none⟩ v) := fun A g o v h => Frame.setCell A g o v h
  rw [← hE]
  exact st (st (st (st (st (one _ _ _ _ (.inl rfl)) (one _ _ _ _ (.inl rfl))) (one _ _ _ _ (.inl rfl))) (one _ _ _ _ (.inl rfl))) (one _ _ _ _ (.inr (.inl rfl)))) (one _ _ _ _ (.inr (.inr rfl)))
 have hF2 := frame_put E1 D (.deferred none)
 have hF : Frame (fun q => q = g1 ∨ q = g2 ∨ q = g3 ∨ q = D) W (E1.putObj D (.deferred none)) := (hF1.mono (fun q h => by rcases h with h | h | h <;> simp [h])).trans (hF2.mono (fun q h => by have h : q = D := h; simp [h])) (fun q h => .inl h)
 have e1 : E1.heap[g1]? = some (.cells #[.int .i64 (k : Nat), vs, ve, .slice (some ⟨g6, 0, none⟩) k k] 25 (0, 0)) := by
  have s3 := heap_set1 (.slice (some ⟨g6, 0, none⟩) k k) (k := 3) (heap_set1 ve (k := 2) (heap_set1 vs (k := 1) (heap_set1 (.int .i64 (k : Nat)) (k := 0) k1)))
  have hr : (((r1.setIfInBounds 0 (.int .i64 (k : Nat))).setIfInBounds 1 vs).setIfInBounds 2 ve).setIfInBounds 3 (.slice (some ⟨g6, 0, none⟩) k k) = #[.int .i64 (k : Nat), vs, ve, .slice (some ⟨g6, 0, none⟩) k k] := by
   obtain ⟨l⟩ := r1
   match l, z1 with
   | [a, b, c, d], _ => rfl
  rw [hr] at s3
  rw [← hE, Below.heap_setCell _ _ _ _ n13, Below.heap_setCell _ _ _ _ n12]
  exact s3
 have one1 : ∀ (r : Array Value) (v : Value), r.size = 1 → r.setIfInBounds 0 v = #[v] := fun r v hz => by
  obtain ⟨l⟩ := r
  match l, hz with
  | [a], _ => rfl
 have e2 : E1.heap[g2]? = some (.cells #[vw] 32 (0, 0)) := by
  rw [← hE, Below.heap_setCell _ _ _ _ n23]
  refine (heap_set1 vw (k := 0) (cs := r2) ?_).trans (by rw [one1 r2 vw z2])
  rw [Below.heap_setCell _ _ _ _ (Ne.symm n12), Below.heap_setCell _ _ _ _ (Ne.symm n12), Below.heap_setCell _ _ _ _ (Ne.symm n12), Below.heap_setCell _ _ _ _ (Ne.symm n12)]
  exact k2
 have e3 : E1.heap[g3]? = some (.cells #[.bool true] 4 (0, 0)) := by
  rw [← hE]
  refine (heap_set1 (.bool true) (k := 0) (cs := r3) ?_).trans (by rw [one1 r3 _ z3])
  rw [Below.heap_setCell _ _ _ _ (Ne.symm n23), Below.heap_setCell _ _ _ _ (Ne.symm n13), Below.heap_setCell _ _ _ _ (Ne.symm n13), Below.heap_setCell _ _ _ _ (Ne.symm n13), Below.heap_setCell _ _ _ _ (Ne.symm n13)]
  exact k3
 have ty : ∀ q cs T, (q = g1 ∨ q = g2 ∨ q = g3 ∨ q = D) → W.heap[q]? = some (.cells cs T (0, 0)) → T = 25 ∨ T = 32 ∨ T = 4 := fun q cs T hq hT => by
  rcases hq with rfl | rfl | rfl | rfl
  ·rw [k1] at hT; cases hT; exact .inl rfl
  ·rw [k2] at hT; cases hT; exact .inr (.inl rfl)
  ·rw [k3] at hT; cases hT; exact .inr (.inr rfl)
  ·rw [kD] at hT; cases hT
 refine ⟨hF1.heap kD (fun h => ?_), hF2.heap e1 d1, hF2.heap e2 d2, hF2.heap e3 d3, hS.own.frame hF (fun q cs T hq hT => ?_), hF.owns hS.wds (fun q hq hFq => ?_), ?_⟩
 ·rcases h with h | h | h
  ·exact d1 h.symm
  ·exact d2 h.symm
  ·exact d3 h.symm
 ·rcases ty q cs T hq hT with rfl | rfl | rfl <;> exact ⟨by decide, by decide, by decide⟩
 ·obtain ⟨cs, hcs⟩ := own_ty hS.wds hq
  rcases ty q cs _ hFq hcs with h | h | h <;> exact absurd h (by decide)
 ·exact (Frame.of_below hS.low).trans hF (fun q h => .inl (by rcases h with h | h | h | h <;> simp [h]))
end Go.Proofs.YtlpldfocljnpnaaDoor
