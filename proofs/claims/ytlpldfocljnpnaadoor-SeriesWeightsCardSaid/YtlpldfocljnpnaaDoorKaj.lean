/- Layer 17 Layer 17 Automata that are made of others, and their weights. Layer 17 slices.Grow of nothing, slices.Concat at []int Layer 17 Layer 17 Layer 17 -/
import Derived.Test.YtlpldfocljnpnaaDoorKai
import Derived.Test.YtlpldfocljnpnaaDoorKaf
import Derived.Test.YtlpldfocljnpnaaDoorKad
import Derived.Lib.AppendZerosOnto
import Derived.Deep.DeepAppendWide
import Derived.Test.YtlpldfocljnpnaaDoorKaa
set_option maxRecDepth 100000
set_option maxHeartbeats 6400000
set_option linter.unusedSimpArgs false
namespace Go.Proofs.YtlpldfocljnpnaaDoor
open Go.RowKit Go.Shelf
def aut0 : Aut := ⟨0, [], [], []⟩
noncomputable def toldA (a : Aut) : Aut × Int := if (wordsA a).length ≤ 12 then (leastA a, 0) else (aut0, 2)
def FrA (H : Nat) (W : World) (x : Value) (a : Aut) : Prop :=
 ∃ vs ve vt, x = .agg #[.int .i64 a.letters, vs, ve, vt] ∧
  ((∃ k g6 us, vt = .slice (some ⟨g6, 0, none⟩) k k ∧ OwnA W H g6 k vs ve us a.start a.end_ a.steps) ∨
   (vs = .slice none 0 0 ∧ ve = .slice none 0 0 ∧ vt = .slice none 0 0 ∧ a.start = [] ∧ a.end_ = [] ∧ a.steps = []))
theorem FrA.zero (H : Nat) (W : World) : FrA H W (.agg #[.int .i64 0, .slice none 0 0, .slice none 0 0, .slice none 0 0]) aut0 := ⟨_, _, _, rfl, .inr ⟨rfl, rfl, rfl, rfl, rfl, rfl⟩⟩
theorem FrA.frame {H : Nat} {W W' : World} {x : Value} {a : Aut} {F : Nat → Prop} (h : FrA H W x a) (hf : Frame F W W') (hn : ∀ q cs T, F q → W.heap[q]? = some (.cells cs T (0, 0)) → T ≠ 3 ∧ T ≠ 22 ∧ T ≠ 59) : FrA H W' x a := by
 obtain ⟨vs, ve, vt, e, h⟩ := h
 refine ⟨vs, ve, vt, e, h.imp (fun ⟨k, g6, us, e2, h2⟩ => ⟨k, g6, us, e2, h2.frame hf hn⟩) id⟩
theorem FrA.kept {H : Nat} {W W' : World} {x : Value} {a : Aut} (h : FrA H W x a) (hb : Below W.heap.size W W') : FrA H W' x a := h.frame (F := fun _ => False) (Frame.of_below hb) fun _ _ _ hF => hF.elim
theorem FrA.base {H H' : Nat} {W : World} {x : Value} {a : Aut} (h : FrA H W x a) (hH : H' ≤ H) : FrA H' W x a := by
 obtain ⟨vs, ve, vt, e, h⟩ := h
 exact ⟨vs, ve, vt, e, h.imp (fun ⟨k, g6, us, e2, h2⟩ => ⟨k, g6, us, e2, h2.base hH⟩) id⟩
theorem FrA.form {H : Nat} {W : World} {x : Value} {a : Aut} (h : FrA H W x a) : ∃ A1 A2 A3 n1 n2 n3 c1 c2 c3, x = .agg #[.int .i64 a.letters, .slice A1 n1 c1, .slice A2 n2 c2, .slice A3 n3 c3] := by
 obtain ⟨vs, ve, vt, e, h | ⟨rfl, rfl, rfl, -⟩⟩ := h
 ·obtain ⟨k, g6, us, rfl, h2⟩ := h
  obtain ⟨A1, c1, rfl⟩ := own_form h2.start
  obtain ⟨A2, c2, rfl⟩ := own_form h2.end_
  exact ⟨_, _, _, _, _, _, _, _, _, e⟩
 ·exact ⟨_, _, _, _, _, _, _, _, _, e⟩
theorem RdV.nil (W : World) : RdV W (.slice none 0 0) [] := ⟨none, 0, rfl, Nat.le_refl _, by simp, fun h => by simp at h⟩
theorem RdA.nil (W : World) (l : Int) : RdA W (.slice none 0 0) (.slice none 0 0) (.slice none 0 0) ⟨l, [], [], []⟩ := ⟨RdV.nil W, RdV.nil W, [], RdV.nil W, rfl, fun j x u h => by simp at h⟩
theorem FrA.rd {H : Nat} {W : World} {s e t : Value} {a : Aut} (h : FrA H W (.agg #[.int .i64 a.letters, s, e, t]) a) (h1 : a.start.length ≤ 1000000) (h2 : a.end_.length ≤ 1000000) (h3 : a.steps.length ≤ 1000000) (h4 : ∀ m ∈ a.steps, m.length ≤ 1000000 ∧ ∀ r ∈ m, r.length ≤ 1000000) : RdA W s e t a := by
 obtain ⟨vs, ve, vt, e', h | ⟨rfl, rfl, rfl, e1, e2, e3⟩⟩ := h
 ·obtain ⟨k, g6, us, rfl, h5⟩ := h
  simp only [Value.agg.injEq, Array.mk.injEq, List.cons.injEq, and_true, true_and] at e'
  obtain ⟨rfl, rfl, rfl⟩ := e'
  have := h5.rd (by have := h5.len; omega) h1 h2 h4 a.letters
  exact this
 ·simp only [Value.agg.injEq, Array.mk.injEq, List.cons.injEq, and_true, true_and] at e'
  obtain ⟨rfl, rfl, rfl⟩ := e'
  have := RdA.nil W a.letters
  obtain ⟨l, S, E, M⟩ := a
  simp only at e1 e2 e3
  subst e1 e2 e3
  exact this
theorem leastOk {a : Aut} {k n : Nat} (ok : okA a k n) : okA (leastA a) k (wordsA a).length := by
 have h := leastA_of ok
 refine ⟨h.letters, ok.pos, ?_, ⟨h.ends.1, h.ends.2.1⟩, h.steps, fun m hm => ?_⟩
 ·rw [h.start]
  refine ⟨by simp, fun u hu => ?_⟩
  obtain ⟨i, -, rfl⟩ := List.mem_map.1 hu
  split <;> omega
 ·obtain ⟨x, hx, rfl⟩ := List.getElem_of_mem hm
  have := h.mats x (by have := h.steps; omega)
  rw [List.getD_eq_getElem?_getD, List.getElem?_eq_getElem hx] at this
  exact this
def ResA (p : Aut × Int) (w : World) (r : Ending) (w' : World) : Prop := ∃ x, r = .returned (.tuple #[x, .int .i64 p.2]) ∧ FrA w.heap.size w' x p.1 ∧ Below w.heap.size w w'
theorem two0 (w : World) (a b : Obj) : ((w.alloc a).alloc b).heap[w.heap.size]? = some a ∧ ((w.alloc a).alloc b).heap[w.heap.size + 1]? = some b ∧ ((w.alloc a).alloc b).heap.size = w.heap.size + 2 ∧ Below w.heap.size w ((w.alloc a).alloc b) := by
 refine ⟨?_, ?_, by simp, ((Below.refl _ _).alloc (Nat.le_refl _) _).alloc (by simp) _⟩
 ·show ((w.heap.push a).push b)[w.heap.size]? = _
  rw [Array.getElem?_push, if_neg (by simp), Array.getElem?_push, if_pos (by simp)]
 ·show ((w.heap.push a).push b)[w.heap.size + 1]? = _
  rw [Array.getElem?_push, if_pos (by simp)]
theorem heap_set4 {W : World} {g : Nat} {x y z u : Value} {t : TypeId} {fr : Nat × Nat} (a b c d : Value) (h : W.heap[g]? = some (.cells #[x, y, z, u] t fr)) : ((((W.setCell ⟨g, 0, none⟩ a).setCell ⟨g, 1, none⟩ b).setCell ⟨g, 2, none⟩ c).setCell ⟨g, 3, none⟩ d).heap[g]? = some (.cells #[a, b, c, d] t fr) := by
 have := heap_set1 (k := 3) d (heap_set1 (k := 2) c (heap_set1 (k := 1) b (heap_set1 (k := 0) a h)))
 simpa using this
theorem frame_set4 (W : World) (g : Nat) (a b c d : Value) : Frame (fun q => q = g) W ((((W.setCell ⟨g, 0, none⟩ a).setCell ⟨g, 1, none⟩ b).setCell ⟨g, 2, none⟩ c).setCell ⟨g, 3, none⟩ d) := by
 have st : ∀ {A B C : World}, Frame (fun q => q = g) A B → Frame (fun q => q = g) B C → Frame (fun q => q = g) A C := fun a b => a.trans b (fun _ h => .inl h)
 have one : ∀ (A : World) (o : Nat) (v : Value), Frame (fun q => q = g) A (A.setCell ⟨g, o, none⟩ v) := fun A o v => Frame.setCell A g o v rfl
 exact st (st (st (one _ _ _) (one _ _ _)) (one _ _ _)) (one _ _ _)
theorem frozen4 {W : World} {g : Nat} {cs : Array Value} {T : TypeId} (h : W.heap[g]? = some (.cells cs T (0, 0))) : W.frozen? ⟨g, 0, none⟩ = false ∧ W.frozen? ⟨g, 1, none⟩ = false ∧ W.frozen? ⟨g, 2, none⟩ = false ∧ W.frozen? ⟨g, 3, none⟩ = false := ⟨froz h 0, froz h 1, froz h 2, froz h 3⟩
theorem resA_set {w W : World} {g : Nat} {x0 x1 x2 x3 a b c d : Value} {p : Aut × Int} {fr : Nat} (h : W.heap[g]? = some (.cells #[x0, x1, x2, x3] 25 (0, 0))) (hg : w.heap.size ≤ g) (hb : Below w.heap.size w W) (hf : FrA fr W (.agg #[a, b, c, d]) p.1) (hfr : w.heap.size ≤ fr) :
  ResA p w (.returned (.tuple #[.agg #[a, b, c, d], .int .i64 p.2])) ((((W.setCell ⟨g, 0, none⟩ a).setCell ⟨g, 1, none⟩ b).setCell ⟨g, 2, none⟩ c).setCell ⟨g, 3, none⟩ d) := by
 have hF := frame_set4 W g a b c d
 refine ⟨_, rfl, (hf.frame hF (fun q cs T hq hT => ?_)).base hfr, hb.trans (hF.below hb.size (fun q hq => by rw [hq]; exact hg))⟩
 subst hq
 rw [h] at hT
 cases hT
 exact ⟨by decide, by decide, by decide⟩
theorem least_eng {a : Aut} {k n : Nat} (ok : okA a k n) (hn : n ≤ 999) (s e t : Value) (w : World) (ra : RdA w s e t a) :
  Calls Tryd.prog 54 #[.agg #[.int .i64 (k : Nat), s, e, t]] w fun r w' =>
   (((wordsA a).length ≤ 12 ∧ ∃ A1 A2 A3 A4 n1 n2 n3 n4 c1 c2 c3 c4, r = .returned (.tuple #[.agg #[.int .i64 (k : Nat), .slice A1 n1 c1, .slice A2 n2 c2, .slice A3 n3 c3], .slice A4 n4 c4, .bool true]) ∧ FrA w.heap.size w' (.agg #[.int .i64 (k : Nat), .slice A1 n1 c1, .slice A2 n2 c2, .slice A3 n3 c3]) (leastA a) ∧ RdV w' (.slice A4 n4 c4) ((wordsA a).map fun x => .string (wordB x))) ∨
    (12 < (wordsA a).length ∧ r = .returned (.tuple #[.agg #[.int .i64 0, .slice none 0 0, .slice none 0 0, .slice none 0 0], .slice none 0 0, .bool false]))) ∧ Below w.heap.size w w' := by
 have hw := wordsA_of a
 rw [ok.steps] at hw
 refine (least_k ok hn (colsA_of ok) hw s e t w ra).mono ?_
 rintro r w' ⟨⟨h1, k', vs, ve, g6, us, vw, rfl, h3, h4, h5⟩ | ⟨h1, h2⟩, hb⟩
 ·refine ⟨.inl ⟨h1, ?_⟩, hb⟩
  have hk : k' = k := by
   have h3' : (leastA a).letters = (k' : Nat) := h3
   rw [(leastOk ok).letters] at h3'
   omega
  subst hk
  obtain ⟨A1, c1, rfl⟩ := own_form h4.start
  obtain ⟨A2, c2, rfl⟩ := own_form h4.end_
  obtain ⟨A4, c4, e4, _⟩ := h5
  subst e4
  refine ⟨_, _, _, _, _, _, _, _, _, _, _, _, rfl, ⟨_, _, _, by rw [(leastOk ok).letters], .inl ⟨_, g6, us, rfl, h4⟩⟩, ⟨_, _, rfl, by assumption⟩⟩
 ·exact ⟨.inr ⟨h1, h2⟩, hb⟩
theorem result_any {a : Aut} {k n : Nat} (ok : okA a k n) (hn : n ≤ 999) (s e t : Value) (w : World) (ra : RdA w s e t a) :
  Calls Tryd.prog 53 #[.agg #[.int .i64 (k : Nat), s, e, t]] w (ResA (toldA a) w) := by
 obtain ⟨As, cs, rfl, -, -⟩ := ra.start.cell_
 obtain ⟨Ae, ce, rfl, -, -⟩ := ra.end_.cell_
 obtain ⟨At, ct, rfl, -, -⟩ := RdS.open_ ([] : List (List Int)) ra.steps
 have hl := Lib.hid (fun W (hW : Below w.heap.size w W) => least_eng ok hn _ _ _ W (ra.below hW (Nat.le_refl _)))
 clear ra ok
 generalize a.start.length = n1 at *
 generalize a.end_.length = n2 at *
 generalize a.steps.length = n3 at *
 obtain ⟨x0, x1, hz, hB⟩ := two0 w (.cells #[.int .i64 (k : Nat), .slice As n1 cs, .slice Ae n2 ce, .slice At n3 ct] 25) (.cells #[.int .i64 0, .slice none 0 0, .slice none 0 0, .slice none 0 0] 25)
 obtain ⟨q0, q1, q2, q3⟩ := cells4 x0
 replace hB := Lib.hid hB
 have x1' := Lib.hid x1
 have ht : Hid (toldA a = if (wordsA a).length ≤ 12 then (leastA a, 0) else (aut0, 2)) := Lib.hid rfl
 clear x0 x1
 go_enter Tryd.func53, Tryd.ntmps53
 go_wp2_with fail
 generalize ((w.alloc (.cells #[.int .i64 (k : Nat), .slice As n1 cs, .slice Ae n2 ce, .slice At n3 ct] 25)).alloc (.cells #[.int .i64 0, .slice none 0 0, .slice none 0 0, .slice none 0 0] 25)) = X at *
 refine (hl.out X hB.out).mono ?_
 rintro e W1 ⟨⟨h12, A1, A2, A3, A4, m1, m2, m3, m4, c1, c2, c3, c4, rfl, hF, hR⟩ | ⟨h12, rfl⟩, hb⟩
 ·have r1 := (hb.block (w.heap.size + 1) (by omega)).trans x1'.out
  have hal : Below W1.heap.size W1 (W1.alloc (.cells #[.int .i64 (k : Nat), .slice A1 m1 c1, .slice A2 m2 c2, .slice A3 m3 c3] 25)) := (Below.refl _ _).alloc (Nat.le_refl _) _
  have r2 := heap_keep r1 hal
  have r3 := Lib.hid r2
  have hF2 := Lib.hid (hF.kept hal)
  have hb2 := Lib.hid (Below.then_ (Below.then_ hB.out hb) hal)
  have hr : Hid (toldA a = (leastA a, 0)) := Lib.hid (by rw [ht.out, if_pos h12])
  obtain ⟨p0, p1, p2, p3⟩ := cells4 r2
  obtain ⟨f0, f1, f2, f3⟩ := frozen4 r2
  have hb1 := Lib.hid hb
  have hzz := Lib.hid hz
  obtain ⟨s0, s1, s2, s3⟩ := cells4 (heap_alloc_new W1 (.cells #[.int .i64 (k : Nat), .slice A1 m1 c1, .slice A2 m2 c2, .slice A3 m3 c3] 25))
  clear r1 r2 hF hR hal hb hl ht
  go_wp2_with fail
  refine bodyPost_ret (res_ct rfl _ _ (w.heap.size + 1) 25 #[.int .i64 (k : Nat), .slice A1 m1 c1, .slice A2 m2 c2, .slice A3 m3 c3] (0, 0) _ rfl (heap_set4 _ _ _ _ r3.out) rfl rfl rfl) rfl ?_
  rw [hr.out]
  exact resA_set (p := (leastA a, 0)) r3.out (by omega) hb2.out hF2.out (by have := hzz.out; omega)
 ·have r1 := (hb.block (w.heap.size + 1) (by omega)).trans x1'.out
  have hal : Below W1.heap.size W1 (W1.alloc (.cells #[.int .i64 0, .slice none 0 0, .slice none 0 0, .slice none 0 0] 25)) := (Below.refl _ _).alloc (Nat.le_refl _) _
  have r2 := heap_keep r1 hal
  have r3 := Lib.hid r2
  have hb2 := Lib.hid (Below.then_ (Below.then_ hB.out hb) hal)
  have hr : Hid (toldA a = (aut0, 2)) := Lib.hid (by rw [ht.out, if_neg (by omega)])
  obtain ⟨p0, p1, p2, p3⟩ := cells4 r2
  obtain ⟨f0, f1, f2, f3⟩ := frozen4 r2
  clear r1 r2 hal hb hl ht
  go_wp2_with fail
  refine bodyPost_ret (res_ct rfl _ _ (w.heap.size + 1) 25 #[.int .i64 0, .slice none 0 0, .slice none 0 0, .slice none 0 0] (0, 0) _ rfl (heap_set4 _ _ _ _ r3.out) rfl rfl rfl) rfl ?_
  rw [hr.out]
  exact resA_set (p := (aut0, 2)) r3.out (by omega) hb2.out (FrA.zero _ _) (Nat.le_refl _)
end Go.Proofs.YtlpldfocljnpnaaDoor
namespace Go.Proofs.YtlpldfocljnpnaaDoor
open Go.RowKit Go.Shelf
theorem res_c1 {P : Program} {fn : Func} {p : Tmp} {ty : TypeId} (h : fn.results = #[.cell p ty]) (tmps : Array Value) (w : World) (g : Nat) (t : TypeId) (cs : Array Value) (fr : Nat × Nat) (d : TypeDesc)
  (hp : tmps.getD p undef = .pointer (some ⟨g, 0, none⟩)) (hg : w.heap[g]? = some (.cells cs t fr))
  (hu : P.underlying ty = some d) (hd : (match d with | .struct _ | .array _ _ => true | _ => false) = true) (hi : (P.info? ty).map (·.size) = some cs.size) :
  (results fn tmps).run P w = .ok (.agg cs) w := by
 have hp' : tmps[p]?.getD undef = .pointer (some ⟨g, 0, none⟩) := by simpa using hp
 simp [results, h, hp', asAddr, run_loadVar_row w g t ty cs fr d hg hu hd hi]
noncomputable def guardA (a : Aut) (p : Aut × Int) : Aut × Int := if checkA a = 0 then p else (aut0, checkA a)
theorem checkA_ex {a : Aut} (h : checkA a = 0) : ∃ k : Nat, okA a k a.start.length ∧ a.start.length ≤ 12 ∧ a.letters = (k : Nat) := by
 obtain ⟨h1, h2, h3⟩ := checkA_ok h
 exact ⟨_, h1, h2, h3⟩
noncomputable def chosenP (a : Aut) : List (List Nat) × Int := if checkA a = 0 then (if (wordsA a).length ≤ 12 then wordsA a else [], 0) else ([], checkA a)
theorem ChosenA_any (a : Aut) (s e t : Value) (w : World) (ra : RdA w s e t a) :
  Calls Tryd.prog 14 #[.agg #[.int .i64 a.letters, s, e, t]] w fun r w' => (∃ v, r = .returned (.tuple #[v, .int .i64 (chosenP a).2]) ∧ RdV w' v ((chosenP a).1.map fun x => .string (wordB x))) ∧ Below w.heap.size w w' := by
 obtain ⟨As, cs, rfl, -, -⟩ := ra.start.cell_
 obtain ⟨Ae, ce, rfl, -, -⟩ := ra.end_.cell_
 obtain ⟨At, ct, rfl, -, -⟩ := RdS.open_ ([] : List (List Int)) ra.steps
 have hck := Lib.hid (fun W (hW : Below w.heap.size w W) => CheckA_any a _ _ _ W (ra.below hW (Nat.le_refl _)))
 by_cases h0 : checkA a = 0
 ·obtain ⟨k0, ok, h12, hk0⟩ := checkA_ex h0
  have hri := Lib.hid (fun W (hW : Below w.heap.size w W) => least_eng ok (by omega) _ _ _ W (ra.below hW (Nat.le_refl _)))
  have hr : Hid (chosenP a = (if (wordsA a).length ≤ 12 then wordsA a else [], 0)) := Lib.hid (if_pos h0)
  rw [h0] at hck
  rw [hk0] at hck ⊢
  clear ra ok h0
  generalize chosenP a = R at *
  generalize a.start.length = n at *
  generalize a.end_.length = m at *
  generalize a.steps.length = k at *
  clear hk0 h12
  obtain ⟨hB, x0, hz⟩ := box4 w (.int .i64 (k0 : Nat)) (.slice As n cs) (.slice Ae m ce) (.slice At k ct) 25
  go_enter Tryd.func14, Tryd.ntmps14
  go_wp2_with fail
  generalize (w.alloc (.cells #[.int .i64 (k0 : Nat), .slice As n cs, .slice Ae m ce, .slice At k ct] 25)) = X at *
  refine (hck.out X hB).mono ?_; rintro e W1 ⟨rfl, hb⟩
  have hB1 := Lib.hid (Below.then_ hB hb)
  replace x0 := (hb.block w.heap.size (by omega)).trans x0
  have hz1 := hb.size
  obtain ⟨q0, q1, q2, q3⟩ := cells4 x0
  replace x0 := Lib.hid x0
  clear hb hB
  go_wp2_with fail
  refine (hri.out W1 hB1.out).mono ?_
  rintro e W2 ⟨⟨h12, A1, A2, A3, A4, m1, m2, m3, m4, c1, c2, c3, c4, rfl, hF, hR⟩ | ⟨h12, rfl⟩, hb2⟩
  ·have hr2 := Lib.hid (hr.out.trans (by rw [if_pos h12]))
   have hB2 := Lib.hid (Below.then_ hB1.out hb2)
   have hR2 := Lib.hid (hR.below ((Below.refl W2.heap.size W2).alloc (Nat.le_refl _) (.cells #[.int .i64 (k0 : Nat), .slice A1 m1 c1, .slice A2 m2 c2, .slice A3 m3 c3] 25)) (Nat.le_refl _))
   clear hF hR hb2
   go_wp2_with fail
   go_ret2
   rw [hr2.out]
   exact ⟨⟨_, rfl, hR2.out⟩, Below.then_ hB2.out ((Below.refl _ _).alloc (Nat.le_refl _) _)⟩
  ·have hr2 := Lib.hid (hr.out.trans (by rw [if_neg (by omega)]))
   have hB2 := Lib.hid (Below.then_ hB1.out hb2)
   clear hb2
   go_wp2_with fail
   go_ret2
   rw [hr2.out]
   exact ⟨⟨_, rfl, RdV.nil _⟩, Below.then_ hB2.out ((Below.refl _ _).alloc (Nat.le_refl _) _)⟩
 ·have hr : chosenP a = ([], checkA a) := if_neg h0
  have hne : (checkA a != 0) = true := by rw [bne_iff_ne]; exact h0
  rw [hr]
  clear ra hr
  generalize checkA a = er at *
  generalize a.letters = L at *
  generalize a.start.length = n at *
  generalize a.end_.length = m at *
  generalize a.steps.length = k at *
  obtain ⟨hB, x0, hz⟩ := box4 w (.int .i64 L) (.slice As n cs) (.slice Ae m ce) (.slice At k ct) 25
  go_enter Tryd.func14, Tryd.ntmps14
  go_wp2_with fail
  generalize (w.alloc (.cells #[.int .i64 L, .slice As n cs, .slice Ae m ce, .slice At k ct] 25)) = X at *
  refine (hck.out X hB).mono ?_; rintro e W1 ⟨rfl, hb⟩
  have hB1 := Lib.hid (Below.then_ hB hb)
  replace x0 := (hb.block w.heap.size (by omega)).trans x0
  have hz1 := hb.size
  obtain ⟨q0, q1, q2, q3⟩ := cells4 x0
  replace x0 := Lib.hid x0
  clear hb hB
  go_wp2_with fail
  go_ret2
  exact ⟨⟨_, rfl, RdV.nil _⟩, hB1.out⟩
theorem with_any (l : Int) (A1 A2 A3 B1 B2 : Option Addr) (n1 n2 n3 m1 m2 c1 c2 c3 d1 d2 : Nat) (w : World) :
  Calls Tryd.prog 62 #[.agg #[.int .i64 l, .slice A1 n1 c1, .slice A2 n2 c2, .slice A3 n3 c3], .slice B1 m1 d1, .slice B2 m2 d2] w fun r w' => r = .returned (.agg #[.int .i64 l, .slice B1 m1 d1, .slice B2 m2 d2, .slice A3 n3 c3]) ∧ Below w.heap.size w w' := by
 obtain ⟨x0, x1, hz, hB⟩ := two0 w (.cells #[.int .i64 l, .slice A1 n1 c1, .slice A2 n2 c2, .slice A3 n3 c3] 25) (.cells #[.int .i64 0, .slice none 0 0, .slice none 0 0, .slice none 0 0] 25)
 obtain ⟨q0, q1, q2, q3⟩ := cells4 x0
 obtain ⟨p0, p1, p2, p3⟩ := cells4 x1
 obtain ⟨f0, f1, f2, f3⟩ := frozen4 x1
 obtain ⟨g0, g1, g2, g3⟩ := frozen4 x0
 replace x0 := Lib.hid x0
 replace x1 := Lib.hid x1
 replace hB := Lib.hid hB
 go_enter Tryd.func62, Tryd.ntmps62
 go_upto_region 1 with fail
 generalize ((w.alloc (.cells #[.int .i64 l, .slice A1 n1 c1, .slice A2 n2 c2, .slice A3 n3 c3] 25)).alloc (.cells #[.int .i64 0, .slice none 0 0, .slice none 0 0, .slice none 0 0] 25)) = X at *
 have y0 := heap_set1 (.slice B2 m2 d2) (k := 2) (heap_set1 (.slice B1 m1 d1) (k := 1) x0.out)
 have hF : Frame (fun q => q = w.heap.size) X ((X.setCell ⟨w.heap.size, 1, none⟩ (.slice B1 m1 d1)).setCell ⟨w.heap.size, 2, none⟩ (.slice B2 m2 d2)) := (Frame.setCell (F := fun q => q = w.heap.size) X w.heap.size 1 (.slice B1 m1 d1) rfl).trans (Frame.setCell (F := fun q => q = w.heap.size) _ w.heap.size 2 (.slice B2 m2 d2) rfl) (fun _ h => .inl h)
 have y1 := hF.heap x1.out (by omega)
 have hB2 := hB.out.trans (hF.below (B := w.heap.size) (by omega) (fun q h => by omega))
 replace hF := Lib.hid hF
 replace y0 := Lib.hid y0
 replace y1 := Lib.hid y1
 replace hB2 := Lib.hid hB2
 go_upto_region 2 with fail
 generalize ((X.setCell ⟨w.heap.size, 1, none⟩ (.slice B1 m1 d1)).setCell ⟨w.heap.size, 2, none⟩ (.slice B2 m2 d2)) = Y at *
 clear p0 p1 p2 p3 f0 f1 f2 f3 q0 q1 q2 q3 g0 g1 g2 g3
 have y0' : Y.heap[w.heap.size]? = some (.cells #[.int .i64 l, .slice B1 m1 d1, .slice B2 m2 d2, .slice A3 n3 c3] 25 (0, 0)) := y0.out
 obtain ⟨q0, q1, q2, q3⟩ := cells4 y0'
 obtain ⟨p0, p1, p2, p3⟩ := cells4 y1.out
 obtain ⟨f0, f1, f2, f3⟩ := frozen4 y1.out
 replace y0' := Lib.hid y0'
 go_wp2_with fail
 refine bodyPost_ret (res_c1 rfl _ _ (w.heap.size + 1) 25 #[.int .i64 l, .slice B1 m1 d1, .slice B2 m2 d2, .slice A3 n3 c3] (0, 0) _ rfl (heap_set4 _ _ _ _ y1.out) rfl rfl rfl) rfl ?_
 exact ⟨rfl, hB2.out.trans ((frame_set4 Y (w.heap.size + 1) _ _ _ _).below hB2.out.size (fun q h => by omega))⟩
end Go.Proofs.YtlpldfocljnpnaaDoor
namespace Go.Proofs.YtlpldfocljnpnaaDoor
def mkA (k : Nat) (start end_ : List Int) (f : Nat → Nat → Nat → Int) (N : Nat) : Aut := ⟨k, start, end_, (List.range k).map fun x => mat (f x) N N⟩
def G3 (a : Aut) (x i k : Nat) : Int := gM (a.steps.getD x []) i k
def F3 (a : Aut) (x i k : Nat) : Fp := toF (G3 a x i k)
theorem mkA_ok {k : Nat} (hk : 1 ≤ k ∧ k ≤ 4) {start end_ : List Int} {f : Nat → Nat → Nat → Int} {N : Nat} (hs : start.length = N ∧ ∀ u ∈ start, 0 ≤ u ∧ u < 65521) (he : end_.length = N ∧ ∀ u ∈ end_, 0 ≤ u ∧ u < 65521)
  (hf : ∀ x i j, x < k → i < N → j < N → 0 ≤ f x i j ∧ f x i j < 65521) : okA (mkA k start end_ f N) k N :=
 ⟨rfl, hk, hs, he, by simp [mkA], fun m hm => by
  obtain ⟨x, hx, rfl⟩ := List.mem_map.1 hm
  exact okM_mat _ _ _ fun i j hi hj => hf x i j (List.mem_range.1 hx) hi hj⟩
section
variable {a : Aut} {k n : Nat}
theorem okA.G3_bd (ok : okA a k n) (x i j : Nat) : 0 ≤ G3 a x i j ∧ G3 a x i j < 65521 := by
 by_cases hx : x < a.steps.length
 ·have hm := ok.mats _ (List.getElem_mem hx)
  unfold G3 gM
  rw [List.getD_eq_getElem?_getD (l := a.steps), List.getElem?_eq_getElem hx]
  exact okRows.get (N := n) (fun y hy => hm.2 y hy) i j
 ·unfold G3 gM
  rw [List.getD_eq_getElem?_getD (l := a.steps), List.getElem?_eq_none (by omega)]
  show 0 ≤ ([] : List Int).getD j 0 ∧ _
  simp
theorem okA.mat_len (ok : okA a k n) {x : Nat} (hx : x < k) : okM (a.steps.getD x []) n n := ok.mats _ (getD_mem _ _ (by rw [ok.steps]; exact hx))
theorem row_snoc (ok : okA a k n) (w : List Nat) {x : Nat} (hx : x < k) {j : Nat} (hj : j < n) : rowF (rowW a (w ++ [x])) j = S n (fun i => rowF (rowW a w) i * F3 a x i j) := by
 rw [rowW_snoc, ok.start.1, alongL_F hj, (ok.mat_len hx).1]; rfl
theorem row_out (ok : okA a k n) (w : List Nat) {j : Nat} (hj : n ≤ j) : rowF (rowW a w) j = 0 := rowF_out (rowW_len ok w) hj
theorem ser_eq (ok : okA a k n) (w : List Nat) : serA a w = S n (fun i => rowF (rowW a w) i * rowF a.end_ i) := by
 rw [serA, wtW, dotL_F, rowW_len ok]
end
theorem app_ok {u v : List Int} {n m : Nat} (hu : u.length = n ∧ ∀ x ∈ u, (0 : Int) ≤ x ∧ x < 65521) (hv : v.length = m ∧ ∀ x ∈ v, (0 : Int) ≤ x ∧ x < 65521) : (u ++ v).length = n + m ∧ ∀ x ∈ u ++ v, (0 : Int) ≤ x ∧ x < 65521 :=
 ⟨by rw [List.length_append, hu.1, hv.1], fun x hx => by
  rcases List.mem_append.1 hx with h | h
  ·exact hu.2 x h
  ·exact hv.2 x h⟩
def sideE (a b : Aut) (n : Nat) (x i j : Nat) : Int := if i < n ∧ j < n then G3 a x i j else if n ≤ i ∧ n ≤ j then G3 b x (i - n) (j - n) else 0
def besideA (a b : Aut) : Aut := mkA a.steps.length (a.start ++ b.start) (a.end_ ++ b.end_) (sideE a b a.start.length) (a.start.length + b.start.length)
section
variable {a b : Aut} {k n m : Nat}
theorem sideE_bd (oka : okA a k n) (okb : okA b k m) (N x i j : Nat) : 0 ≤ sideE a b N x i j ∧ sideE a b N x i j < 65521 := by
 unfold sideE
 split
 ·exact oka.G3_bd _ _ _
 ·split
  ·exact okb.G3_bd _ _ _
  ·decide
end
def withA (a : Aut) (start end_ : List Int) : Aut := ⟨a.letters, start, end_, a.steps⟩
theorem with_ok {a : Aut} {k n : Nat} (ok : okA a k n) {start end_ : List Int} (hs : start.length = n ∧ ∀ u ∈ start, 0 ≤ u ∧ u < 65521) (he : end_.length = n ∧ ∀ u ∈ end_, 0 ≤ u ∧ u < 65521) : okA (withA a start end_) k n :=
 ⟨ok.letters, ok.pos, hs, he, ok.steps, ok.mats⟩
def leftA (a : Aut) (x : Nat) : Aut := withA a (alongL a.start.length a.start (a.steps.getD x [])) a.end_
theorem left_ok {a : Aut} {k n : Nat} (ok : okA a k n) (x : Nat) : okA (leftA a x) k n := with_ok ok ⟨(alongL_len _ _ _).trans ok.start.1, alongL_bd _ _ _⟩ ok.end_
end Go.Proofs.YtlpldfocljnpnaaDoor
namespace Go.Proofs.YtlpldfocljnpnaaDoor
open Go.RowKit Go.Shelf
structure OwnQ (W : World) (H : Nat) (t : Value) (us : List Value) (lo : Nat → Nat) (M : List (List (List Int))) : Prop where
 outer : W.ownsRow H 59 1 t M.length us
 mats : ∀ (y : Nat) (m : List (List Int)) (u : Value), M[y]? = some m → us[y]? = some u → ∃ xs, OwnMv W (lo y) u m xs ∧ ∀ x ∈ xs, ∀ q, x.ownBlock = some q → q < lo (y + 1)
 mono : ∀ i j, i ≤ j → lo i ≤ lo j
 base : H ≤ lo 0
 top : lo M.length ≤ W.heap.size
namespace OwnQ
variable {W W' C D : World} {H : Nat} {t t' u : Value} {us : List Value} {lo : Nat → Nat} {M : List (List (List Int))} {m : List (List Int)} {F : Nat → Prop}
theorem ul (h : OwnQ W H t us lo M) : us.length = M.length := by have := h.outer.1; omega
theorem nil (W : World) {H b : Nat} (h1 : H ≤ b) (h2 : b ≤ W.heap.size) : OwnQ W H (.slice none 0 0) [] (fun _ => b) [] :=
 ⟨World.ownsRow_nil _ _ _ _, fun y m u hm => by simp at hm, fun _ _ _ => Nat.le_refl _, h1, h2⟩
theorem frame (h : OwnQ W H t us lo M) (hf : Frame F W W') (hn : ∀ q cs T, F q → W.heap[q]? = some (.cells cs T (0, 0)) → T ≠ 3 ∧ T ≠ 22 ∧ T ≠ 59) : OwnQ W' H t us lo M := by
 have key : ∀ {B : Nat} {e : TypeId} {s n : Nat} {v : Value} {xs : List Value}, W.ownsRow B e s v n xs → (e = 3 ∨ e = 22 ∨ e = 59) → ∀ q, v.ownBlock = some q → ¬ F q := by
  intro B e s n v xs ho he q hq hF
  obtain ⟨cs, hcs⟩ := own_ty ho hq
  obtain ⟨h1, h2, h3⟩ := hn q cs e hF hcs
  rcases he with he | he | he
  ·exact h1 he
  ·exact h2 he
  ·exact h3 he
 refine ⟨hf.owns h.outer (key h.outer (.inr (.inr rfl))), fun y m u hm hu => ?_, h.mono, h.base, Nat.le_trans h.top hf.size⟩
 obtain ⟨xs, hx, hx2⟩ := h.mats y m u hm hu
 refine ⟨xs, hx.frame hf (fun v hv q hq => ?_), hx2⟩
 rcases List.mem_cons.1 hv with rfl | hv
 ·exact key hx.outer (.inr (.inl rfl)) q hq
 ·obtain ⟨j, hj, rfl⟩ := List.getElem_of_mem hv
  exact key (hx.rows j _ _ (List.getElem?_eq_getElem (by have := hx.len; omega)) (List.getElem?_eq_getElem hj)) (.inl rfl) q hq
theorem kept (h : OwnQ W H t us lo M) (hb : Below W.heap.size W W') : OwnQ W' H t us lo M := h.frame (F := fun _ => False) (Frame.of_below hb) fun _ _ _ hF => hF.elim
theorem snoc (h : OwnQ C H t us lo M) {B : Nat} (hB : lo M.length ≤ B) (hBC : B ≤ C.heap.size) (hm : OwnM C B u m) (hD : D.ownsRow H 59 1 t' (M.length + 1) (us ++ [u])) (hg : C.grownBy D t.ownBlock) :
  ∃ lo', OwnQ D H t' (us ++ [u]) lo' (M ++ [m]) ∧ lo' 0 = (if M.length = 0 then B else lo 0) := by
 have hul := h.ul
 obtain ⟨xs, hxs⟩ := hm.v
 have hmv : ∀ {b : Nat} {x : Value} {r : List (List Int)} {ys : List Value}, OwnMv C b x r ys → OwnMv D b x r ys := fun hx => hx.grownBy hg (own_ne hx.outer h.outer (by decide)) (fun z hz => by
  obtain ⟨j, hj, rfl⟩ := List.getElem_of_mem hz
  exact own_ne (hx.rows j _ _ (List.getElem?_eq_getElem (by have := hx.len; omega)) (List.getElem?_eq_getElem hj)) h.outer (by decide))
 refine ⟨fun i => if i < M.length then lo i else if i = M.length then B else D.heap.size, ⟨by rw [List.length_append, List.length_singleton]; exact hD, fun y m2 u2 hm2 hu2 => ?_, fun i j hij => ?_, ?_, ?_⟩, ?_⟩
 ·by_cases hy : y < M.length
  ·rw [List.getElem?_append_left hy] at hm2
   rw [List.getElem?_append_left (by omega)] at hu2
   obtain ⟨ys, hy1, hy2⟩ := h.mats y m2 u2 hm2 hu2
   simp only [if_pos hy]
   refine ⟨ys, hmv hy1, fun x hx q hq => ?_⟩
   have := hy2 x hx q hq
   by_cases hy3 : y + 1 < M.length
   ·rw [if_pos hy3]; exact this
   ·have e : y + 1 = M.length := by omega
    rw [if_neg hy3, if_pos e]
    rw [e] at this
    omega
  ·have hy2 := (List.getElem?_eq_some_iff.1 hm2).1
   have e : y = M.length := by simp at hy2; omega
   subst e
   rw [List.getElem?_append_right (Nat.le_refl _), Nat.sub_self] at hm2
   rw [List.getElem?_append_right (by omega), hul, Nat.sub_self] at hu2
   cases hm2; cases hu2
   simp only [Nat.lt_irrefl, if_false, if_true, if_neg (show ¬ M.length + 1 < M.length by omega), if_neg (show ¬ M.length + 1 = M.length by omega)]
   exact ⟨xs, hmv hxs, fun x hx q hq => (hmv hxs).ge x hx q hq |>.2⟩
 ·have hgz := hg.size
  have h1 := fun i => h.mono i M.length
  show (if i < M.length then lo i else if i = M.length then B else D.heap.size) ≤ (if j < M.length then lo j else if j = M.length then B else D.heap.size)
  by_cases hi : i < M.length
  ·have := h1 i (by omega)
   rw [if_pos hi]
   by_cases hj : j < M.length
   ·rw [if_pos hj]; exact h.mono i j hij
   ·rw [if_neg hj]
    by_cases hj2 : j = M.length
    ·rw [if_pos hj2]; omega
    ·rw [if_neg hj2]; omega
  ·rw [if_neg hi, if_neg (show ¬ j < M.length by omega)]
   by_cases hi2 : i = M.length
   ·rw [if_pos hi2]
    by_cases hj2 : j = M.length
    ·rw [if_pos hj2]; exact Nat.le_refl _
    ·rw [if_neg hj2]; omega
   ·rw [if_neg hi2, if_neg (by omega)]; exact Nat.le_refl _
 ·have h1 := h.mono 0 M.length (by omega)
  have h2 := h.base
  show H ≤ (if 0 < M.length then lo 0 else if 0 = M.length then B else D.heap.size)
  by_cases h0 : 0 < M.length
  ·rw [if_pos h0]; exact h2
  ·rw [if_neg h0, if_pos (by omega)]; omega
 ·simp only [List.length_append, List.length_singleton, if_neg (show ¬ M.length + 1 < M.length by omega), if_neg (show ¬ M.length + 1 = M.length by omega)]
  exact Nat.le_refl _
 ·try simp only []
  by_cases h0 : M.length = 0
  ·rw [if_pos h0, if_neg (by omega), if_pos h0.symm]
  ·rw [if_neg h0, if_pos (by omega)]
theorem rd (h : OwnQ W H t us lo M) (hk : M.length ≤ 1000000) (hM : ∀ m ∈ M, m.length ≤ 1000000 ∧ ∀ r ∈ m, r.length ≤ 1000000) : RdT W t M := by
 refine ⟨us, ?_, h.ul, fun j m u hm hu => ?_⟩
 ·exact own_RdV h.outer (by omega)
 ·obtain ⟨xs, hx, -⟩ := h.mats j m u hm hu
  have hmm := hM m (List.mem_of_getElem? hm)
  exact hx.m.rd (by omega) (fun r hr => by have := hmm.2 r hr; omega)
end OwnQ
def KpI (w W : World) (s : Value) (S : List Int) : Prop := RdI w s S ∨ ∃ B, w.heap.size ≤ B ∧ OwnI W B s S
theorem KpI.frame {w W W' : World} {s : Value} {S : List Int} {F : Nat → Prop} (h : KpI w W s S) (hf : Frame F W W') (hn : ∀ q cs T, F q → W.heap[q]? = some (.cells cs T (0, 0)) → T ≠ 3) : KpI w W' s S := by
 rcases h with h | ⟨B, hB, h⟩
 ·exact .inl h
 ·refine .inr ⟨B, hB, hf.owns h fun q hq hF => ?_⟩
  obtain ⟨cs, hcs⟩ := own_ty h hq
  exact hn q cs _ hF hcs rfl
theorem KpI.kept {w W W' : World} {s : Value} {S : List Int} (h : KpI w W s S) (hb : Below W.heap.size W W') : KpI w W' s S := h.frame (F := fun _ => False) (Frame.of_below hb) fun _ _ _ hF => hF.elim
theorem KpI.rd {w W : World} {s : Value} {S : List Int} (h : KpI w W s S) (hb : Below w.heap.size w W) (hl : S.length ≤ 1000000) : RdI W s S := by
 rcases h with h | ⟨B, hB, h⟩
 ·exact h.below hb (Nat.le_refl _)
 ·exact h.rd (by omega)
structure WgtS (w : World) (H g : Nat) (l : Int) (s e t : Value) (us : List Value) (lo : Nat → Nat) (S E : List Int) (M : List (List (List Int))) (W : World) : Prop where
 low : Below w.heap.size w W
 hH : w.heap.size ≤ H
 box : W.heap[g]? = some (.cells #[.int .i64 l, s, e, t] 25 (0, 0))
 gH : w.heap.size ≤ g
 start : KpI w W s S
 end_ : KpI w W e E
 mats : OwnQ W H t us lo M
namespace WgtS
variable {w W C D : World} {H g : Nat} {l : Int} {s e t t' u : Value} {us : List Value} {lo : Nat → Nat} {S E : List Int} {M : List (List (List Int))} {m : List (List Int)}
theorem kept (h : WgtS w H g l s e t us lo S E M W) (hb : Below W.heap.size W C) : WgtS w H g l s e t us lo S E M C :=
 ⟨Below.then_ h.low hb, h.hH, heap_keep h.box hb, h.gH, h.start.kept hb, h.end_.kept hb, h.mats.kept hb⟩
theorem snoc (h : WgtS w H g l s e t us lo S E M C) {B : Nat} (hB : lo M.length ≤ B) (hBC : B ≤ C.heap.size) (hm : OwnM C B u m) (hD : D.ownsRow H 59 1 t' (M.length + 1) (us ++ [u])) (hg : C.grownBy D t.ownBlock) :
  D.heap[g]? = some (.cells #[.int .i64 l, s, e, t] 25 (0, 0)) ∧ (∃ lo', WgtS w H g l s e t' (us ++ [u]) lo' S E (M ++ [m]) (D.setCell ⟨g, 3, none⟩ t') ∧ lo' 0 = (if M.length = 0 then B else lo 0)) ∧ Frame (fun q => t.ownBlock = some q ∨ q = g) C (D.setCell ⟨g, 3, none⟩ t') ∧ Below w.heap.size w D := by
 have hbx : D.heap[g]? = some (.cells #[.int .i64 l, s, e, t] 25 (0, 0)) := grown_heap h.mats.outer hg h.box (by decide)
 have hlow := h.low.grown hg h.low.size (fun q hq => Nat.le_trans h.hH (h.mats.outer.lt q hq).1)
 have hfD : Frame (fun q => t.ownBlock = some q) C D := Frame.grown hg (fun q e => e)
 have hF1 : Frame (fun q => q = g) D (D.setCell ⟨g, 3, none⟩ t') := Frame.setCell D g 3 t' rfl
 obtain ⟨lo', hq, hl0⟩ := h.mats.snoc hB hBC hm hD hg
 have tyg : ∀ q cs T, q = g → D.heap[q]? = some (.cells cs T (0, 0)) → T = 25 := fun q cs T hq hT => by
  subst hq; rw [hbx] at hT; cases hT; rfl
 have tyt : ∀ q cs T, t.ownBlock = some q → C.heap[q]? = some (.cells cs T (0, 0)) → T = 59 := fun q cs T hq hT => by
  obtain ⟨cs', h'⟩ := own_ty h.mats.outer hq
  rw [h'] at hT; cases hT; rfl
 refine ⟨hbx, ⟨lo', ⟨hlow.setCell (p := ⟨g, 3, none⟩) h.gH _, h.hH, ?_, h.gH, (h.start.frame hfD (fun q cs T h1 h2 => by rw [tyt q cs T h1 h2]; decide)).frame hF1 (fun q cs T h1 h2 => by rw [tyg q cs T h1 h2]; decide), (h.end_.frame hfD (fun q cs T h1 h2 => by rw [tyt q cs T h1 h2]; decide)).frame hF1 (fun q cs T h1 h2 => by rw [tyg q cs T h1 h2]; decide), hq.frame hF1 (fun q cs T h1 h2 => by rw [tyg q cs T h1 h2]; exact ⟨by decide, by decide, by decide⟩)⟩, hl0⟩, (hfD.mono (fun q h => .inl h)).trans (hF1.mono (fun q h => .inr h)) (fun q h => .inl h), hlow⟩
 have := heap_set1 (k := 3) t' hbx
 simpa using this
theorem rd (h : WgtS w H g l s e t us lo S E M W) (hS : S.length ≤ 1000000) (hE : E.length ≤ 1000000) (hk : M.length ≤ 1000000) (hM : ∀ m ∈ M, m.length ≤ 1000000 ∧ ∀ r ∈ m, r.length ≤ 1000000) : RdA W s e t ⟨l, S, E, M⟩ :=
 ⟨h.start.rd h.low hS, h.end_.rd h.low hE, h.mats.rd hk hM⟩
end WgtS
theorem RdA.num {w : World} {s e t : Value} {a : Aut} {k n : Nat} (ra : RdA w s e t a) (ok : okA a k n) {x i j : Nat} (hx : x < k) (hi : i < n) (hj : j < n) :
  ∃ b1 o1 c1 b2 o2 c2 b3 o3 c3, t = .slice (some ⟨b1, o1, none⟩) k c1 ∧ w.cell? ⟨b1, o1 + x, none⟩ = some (.slice (some ⟨b2, o2, none⟩) n c2) ∧ w.cell? ⟨b2, o2 + i, none⟩ = some (.slice (some ⟨b3, o3, none⟩) n c3) ∧ w.cell? ⟨b3, o3 + j, none⟩ = some (.int .i64 (G3 a x i j)) := by
 obtain ⟨b1, o1, c1, u, e1, h1, hu⟩ := ra.steps.get (x := x) (by rw [ok.steps]; exact hx)
 rw [ok.steps] at e1
 obtain ⟨hm1, hm2⟩ := ok.row_ok hx
 obtain ⟨A, c2, e2, -, -, h2⟩ := hu.open_
 rw [hm1] at e2 h2
 obtain ⟨b2, o2, v, rfl, hc2, hv⟩ := h2 i hi
 have hr := hm2 _ (getD_mem (a.steps.getD x []) [] (by rw [hm1]; exact hi))
 obtain ⟨A3, c3, e3, -, -, h3⟩ := hv.open_
 rw [hr.1] at e3 h3
 obtain ⟨b3, o3, rfl, hc3⟩ := h3 j hj
 subst e2 e3
 exact ⟨b1, o1, c1, b2, o2, c2, b3, o3, c3, e1, h1, hc2, hc3⟩
end Go.Proofs.YtlpldfocljnpnaaDoor
namespace Go.Proofs.YtlpldfocljnpnaaDoor
open Go.RowKit Go.Shelf
theorem Grow_nil (n : Nat) (hn : n ≤ 1000000) (w : World) :
  Calls Tryd.prog 127 #[.slice none 0 0, .int .i64 n] w fun e w' => (∃ v, e = .returned v ∧ OwnI w' w.heap.size v []) ∧ Below w.heap.size w w' := by
 by_cases h0 : n = 0
 ·subst h0
  go_enter Tryd.func127, Tryd.ntmps127
  go_wp2
  go_ret
  exact ⟨⟨_, rfl, OwnI_nil _ _⟩, Below.refl _ _⟩
 ·obtain ⟨i0, hi, hz0, hz1, hz2⟩ := info_parts infoI
  have hz : i0.zero = some (.int .i64 0) := hz0
  have hr := fun ty => Lib.run_append_grow_zeros (P := Tryd.prog) w 22 3 ty 3 i0 (.int .i64 0) .i64 .i64 Tryd.underlying22 (by kernel_rfl) hi hz none 0 0 [] (run_firstCells_none w.drew i0.size 0 0 0) n (by omega) (by omega) (by omega) (by omega) (by rw [hz2]; omega) (by
   rw [hz2, Nat.zero_add]
   have := nextslicecap_le_wide (need := n) (old := 0) (by omega)
   omega)
  have hcap : ∃ cap, grownCap w (0 + n) 0 3 = cap ∧ n ≤ cap ∧ cap ≤ maxLen := ⟨_, rfl, by have := grownCap_ge w (0 + n) 0 3; omega, grownCap_le_maxLen w _ 0 _ (by unfold maxLen; omega)⟩
  obtain ⟨cap, hc, hc1, hc2⟩ := hcap
  simp only [hc] at hr
  have hsz : (([] : List Value).toArray ++ Builtin.zeroCells (Value.cells (.int .i64 0)) n ++ Builtin.zeroCells (Value.cells (.int .i64 0)) (cap - (0 + n))).size = cap * 1 := by
   simp [Builtin.zeroCells, Value.cells]; omega
  generalize (([] : List Value).toArray ++ Builtin.zeroCells (Value.cells (.int .i64 0)) n ++ Builtin.zeroCells (Value.cells (.int .i64 0)) (cap - (0 + n))) = cur at *
  have ho := Lib.hid (World.ownsRow_made (base := w.heap.size) (e := 3) (size := 1) w.drew cur cap (Nat.le_refl _) hc2 hsz)
  have hB := Lib.hid ((Below.refl w.heap.size w).drew.alloc (Nat.le_refl _) (.cells cur 3))
  rw [Nat.zero_add] at hr
  have y1 : ¬ ((n : Int) < 0) := by omega
  have y2 : (0 : Int) < (n : Int) := by omega
  have y3 : IntKind.i64.wrap (n : Int) = n := IntWalk.i64_in _ ⟨by omega, by omega⟩
  have y4 : (n : Int) - 0 = (n : Int) := by omega
  go_enter Tryd.func127, Tryd.ntmps127
  go_wp2_with (at_builtin; refine Lib.wpList_append_run _ rfl _ _ _ _ rfl _ _ rfl rfl _ _ (hr _) ?_)
  all_goals (go_ret; exact ⟨⟨_, rfl, ho.out⟩, hB.out⟩)
theorem flat_snoc (rows : List (List Int)) {q : Nat} (hq : q < rows.length) : (rows.take (q + 1)).flatten = (rows.take q).flatten ++ rows.getD q [] := by
 rw [List.take_succ_eq_append_getElem hq, List.flatten_append, List.getD_eq_getElem?_getD, List.getElem?_eq_getElem hq]; simp
theorem flat_le (rows : List (List Int)) (q : Nat) : (rows.take q).flatten.length ≤ rows.flatten.length := by
 conv => rhs; rw [← List.take_append_drop q rows, List.flatten_append, List.length_append]
 omega
theorem Concat_any (rows : List (List Int)) (v : Value) (w : World) (h : RdM w v rows) (hb : rows.flatten.length ≤ 1000000) :
  Calls Tryd.prog 117 #[v] w fun e w' => (∃ v, e = .returned v ∧ OwnI w' w.heap.size v rows.flatten) ∧ Below w.heap.size w w' := by
 obtain ⟨A, c, rfl, h1, h2, h3⟩ := h.open_
 have hG := Lib.hid (fun n (hn : n ≤ 1000000) W => Grow_nil n hn W)
 have hsn := Lib.hid (fun q (hq : q < rows.length) => flat_snoc rows hq)
 have hle := Lib.hid (fun q => Nat.le_trans (flat_le rows q) hb)
 have h00 := Lib.hid (show (rows.take 0).flatten = [] by simp)
 have hend := Lib.hid (show (rows.take rows.length).flatten = rows.flatten by rw [List.take_length])
 replace h3 := Lib.hid h3
 clear h
 generalize rows.length = L at *
 go_enter Tryd.func117, Tryd.ntmps117
 go_wp2
 go_loop [3, 11] (fun s j => ∃ q : Nat, q ≤ L ∧ j = .int .i64 q ∧ s = .int .i64 ((rows.take q).flatten.length : Nat)) (fun _ j => L - (intOf j).toNat)
 case atStart => exact ⟨0, Nat.zero_le _, rfl, by rw [h00.out]; rfl⟩
 case round =>
  obtain ⟨q, hq, rfl, rfl⟩ := hrel
  have hq1 := hle.out q
  by_cases hlt : q < L
  ·obtain ⟨b2, off2, u2, rfl, hc2, hu2⟩ := h3.out q hlt
   obtain ⟨A4, c4, rfl, e1, e2⟩ := hu2.cell_
   have hs := hsn.out q hlt
   have hq2 := hle.out (q + 1)
   have hln : (rows.take (q + 1)).flatten.length = (rows.take q).flatten.length + (rows.getD q []).length := by rw [hs, List.length_append]
   replace hs := Lib.hid hs
   rw [hln] at hq2
   replace hln := Lib.hid hln
   clear hu2
   generalize (rows.take q).flatten.length = S at *
   generalize (rows.getD q []).length = m at *
   have y1 : (q : Int) < (L : Int) := by omega
   have y0 : (0 : Int) ≤ (q : Int) := by omega
   have y2 : ¬ ((S : Int) + (m : Int) < 0) := by omega
   have y3 : IntKind.i64.wrap ((S : Int) + (m : Int)) = (S : Int) + (m : Int) := IntWalk.i64_in _ ⟨by omega, by omega⟩
   go_wp2
   go_round
   case rel => exact ⟨q + 1, by omega, by go_num, by rw [hln.out]; go_num⟩
   case measure => simp [intOf]; omega
  ·obtain rfl : q = L := by omega
   generalize hS : (rows.take q).flatten.length = S at *
   replace hS := Lib.hid hS
   go_wp2_with fail
   refine (hG.out S hq1 _).mono ?_; rintro e W1 ⟨⟨v, rfl, hO⟩, hb1⟩
   have hO1 : Hid (OwnI W1 w.heap.size v (rows.take 0).flatten) := Lib.hid (by rw [h00.out]; exact hO)
   replace hb1 := Lib.hid hb1
   clear hO
   go_wp2
   go_loopw [6, 27] (fun v j w2 => ∃ k : Nat, k ≤ q ∧ j = .int .i64 k ∧ Hid (Below w.heap.size w w2) ∧ Hid (OwnI w2 w.heap.size v (rows.take k).flatten)) (fun _ j _ => q - (intOf j).toNat)
   case atStart => exact ⟨0, Nat.zero_le _, rfl, hb1, hO1⟩
   case round =>
    obtain ⟨k, hk, rfl, hB, hO⟩ := hrel
    rename World => w2
    by_cases hkq : k < q
    ·obtain ⟨b2, off2, u2, rfl, hc2, hu2⟩ := h3.out k hkq
     replace hc2 := (hB.out.cell (p := ⟨b2, off2 + k, none⟩) (World.block_lt_of_cell? w _ hc2)).trans hc2
     replace hu2 := Lib.hid (hu2.below hB.out (Nat.le_refl _))
     obtain ⟨A4, c4, rfl, e1, e2⟩ := hu2.out.cell_
     have hs := hsn.out k hkq
     have hq2 := hle.out (k + 1)
     rw [hs, List.length_append] at hq2
     replace hs := Lib.hid hs
     obtain ⟨A5, c5, rfl⟩ := own_form hO.out
     have hsz := hB.out.size
     have y1 : (k : Int) < (q : Int) := by omega
     have y0 : (0 : Int) ≤ (k : Int) := by omega
     have hown := Lib.hid (show w2.ownsRow w.heap.size 3 1 (.slice A5 (rows.take k).flatten.length c5) (rows.take k).flatten.length (ints (rows.take k).flatten) from hO.out)
     generalize (rows.getD k []) = r at *
     generalize (rows.take k).flatten = F at *
     generalize hF : F.length = m at *
     generalize hR : r.length = m2 at *
     replace hF := Lib.hid hF
     replace hR := Lib.hid hR
     go_wp2_with (at_builtin; (refine wpList_append_rd rfl _ _ rfl w.heap.size (.slice A5 m c5) (.slice A4 m2 c4) m (ints F) r rfl rfl hown.out hu2.out (by rw [hR.out]; omega) hsz ?_); intro v3 W3 hown3 hgrow hat; obtain ⟨A6, c6, rfl⟩ := own_form hown3)
     have hB3 := Lib.hid (hB.out.grown hgrow hsz (fun g hg => (hown.out.lt g hg).1))
     have hO3 : Hid (OwnI W3 w.heap.size (.slice A6 (m + r.length) c6) (rows.take (k + 1)).flatten) := Lib.hid (by
      rw [hs.out]
      unfold OwnI
      rw [List.length_append, hF.out, ints_append]
      exact hown3)
     rw [hR.out] at hO3
     clear hown3 hgrow hat
     go_wp2
     go_roundw
     case rel => exact ⟨k + 1, by omega, by go_num, hB3, by rw [hR.out]; exact hO3⟩
     case measure => simp [intOf]; omega
    ·obtain rfl : k = q := by omega
     obtain ⟨A5, c5, rfl⟩ := own_form hO.out
     go_wp2
     go_ret
     exact ⟨⟨_, rfl, by rw [← hend.out]; exact hO.out⟩, hB.out⟩
end Go.Proofs.YtlpldfocljnpnaaDoor
namespace Go.Proofs.YtlpldfocljnpnaaDoor
open Go.RowKit Go.Shelf
theorem set4_own {V : World} {g B n : Nat} {v : Value} {xs : List Value} {cs : Array Value} (z : V.heap[g]? = some (.cells cs 25 (0, 0))) (o : V.ownsRow B 3 1 v n xs) (a b c d : Value) : ((((V.setCell ⟨g, 0, none⟩ a).setCell ⟨g, 1, none⟩ b).setCell ⟨g, 2, none⟩ c).setCell ⟨g, 3, none⟩ d).ownsRow B 3 1 v n xs :=
 (frame_set4 V g a b c d).owns o fun q hq e => by
  obtain ⟨cs', h'⟩ := own_ty o hq
  rw [e] at h'
  exact type_ne h' z (by decide)
def bsi2_P (X : World) (h2 h3 k n m : Nat) (As Ae At Bs Be Bt : Option Addr) (cs ce ct dS dE dT : Nat) (S1 E1 S2 E2 : List Int) : Prop := (X.heap[h2]? = some (.cells #[.int .i64 (k : Nat), .slice As n cs, .slice Ae n ce, .slice At k ct] 25 (0, 0))) ∧ (X.heap[h3]? = some (.cells #[.int .i64 (k : Nat), .slice Bs m dS, .slice Be m dE, .slice Bt k dT] 25 (0, 0))) ∧ (RdI X (.slice As n cs) S1) ∧ (RdI X (.slice Ae n ce) E1) ∧ (RdI X (.slice Bs m dS) S2) ∧ (RdI X (.slice Be m dE) E2) ∧ (S1.length = n ∧ S2.length = m ∧ E1.length = n ∧ E2.length = m ∧ n ≤ 1000 ∧ m ≤ 1000)
noncomputable def bsi2_o : Array Oper := dgOps (((Tryd.f79).body.bind (dgReg 2)).getD .skip)
theorem bsi2_k : dOk bsi2_o 45 = true := by kernel_rfl
def bsi2_F (X : World) (h2 h3 k n m : Nat) (As Ae Bs Be : Option Addr) (cs ce dS dE : Nat) (S1 E1 S2 E2 : List Int) (d : Nat → Bool) (V : Nat → Value) (w : World) : Prop := Below X.heap.size X w ∧ (d 0 = true → V 0 = .pointer (some ⟨h2, 0, none⟩)) ∧ (d 1 = true → V 1 = .int .i64 (k : Nat)) ∧ (d 2 = true → V 2 = .pointer (some ⟨h2, 1, none⟩)) ∧ (d 3 = true → V 3 = .slice As n cs) ∧ (d 4 = true → V 4 = .pointer (some ⟨h3, 1, none⟩)) ∧ (d 5 = true → V 5 = .slice Bs m dS) ∧ (d 8 = true → V 8 = .pointer (some ⟨h2, 2, none⟩)) ∧ (d 9 = true → V 9 = .slice Ae n ce) ∧ (d 10 = true → V 10 = .pointer (some ⟨h3, 2, none⟩)) ∧ (d 11 = true → V 11 = .slice Be m dE) ∧ (d 14 = true → d 7 = true ∧ d 13 = true ∧ V 14 = .agg #[.int .i64 (k : Nat), V 7, V 13, .slice none 0 0]) ∧ (d 6 = true → (∃ g, V 6 = .slice (some ⟨g, 0, none⟩) 2 2) ∧ (d 7 = false → RdM w (V 6) [S1, S2])) ∧ (d 7 = true → (∃ A c, V 7 = .slice A (n + m) c) ∧ ∃ B, X.heap.size ≤ B ∧ OwnI w B (V 7) (S1 ++ S2)) ∧ (d 12 = true → (∃ g, V 12 = .slice (some ⟨g, 0, none⟩) 2 2) ∧ (d 13 = false → RdM w (V 12) [E1, E2])) ∧ (d 13 = true → d 7 = true ∧ (∃ A c, V 13 = .slice A (n + m) c) ∧ ∃ B, X.heap.size ≤ B ∧ OwnI w B (V 13) (E1 ++ E2) ∧ ∀ q, (V 7).ownBlock = some q → q < B) ∧ (d 15 = true → ∃ g, V 15 = .pointer (some ⟨g, 0, none⟩) ∧ X.heap.size ≤ g ∧ (d 16 = false → w.heap[g]? = some (.cells #[.int .i64 0, .slice none 0 0, .slice none 0 0, .slice none 0 0] 25 (0, 0))) ∧ (d 16 = true → w.heap[g]? = some (.cells #[.int .i64 (k : Nat), V 7, V 13, .slice none 0 0] 25 (0, 0)))) ∧ (d 16 = true → d 15 = true ∧ d 7 = true ∧ d 13 = true)
theorem bsi2_s {X : World} {h2 h3 k n m : Nat} {As Ae At Bs Be Bt : Option Addr} {cs ce ct dS dE dT : Nat} {S1 E1 S2 E2 : List Int} {Q : Exit → Act → World → Prop} {b : Array Value} (hP : bsi2_P X h2 h3 k n m As Ae At Bs Be Bt cs ce ct dS dE dT S1 E1 S2 E2) (b2 : b.getD 2 undef = .pointer (some ⟨h2, 0, none⟩)) (b3 : b.getD 3 undef = .pointer (some ⟨h3, 0, none⟩)) : ∀ i, i < bsi2_o.size → DStep Tryd.prog .any bsi2_o Q b (bsi2_F X h2 h3 k n m As Ae Bs Be cs ce dS dE S1 E1 S2 E2) i := by
 rw [show bsi2_o.size = 17 from by kernel_rfl]
 intro i hi d V a w oi hoi ⟨hB, v0, v1, v2, v3, v4, v5, v8, v9, v10, v11, v14, f6, f7, f12, f13, f15, f16⟩ hdi hdp hsl K hK
 obtain ⟨hx2, hx3, r1, r2, r3, r4, hl⟩ := hP
 have sl := fun j t (h : dstOf bsi2_o j = some t) (hd : d j = true) => (hsl t).trans (dSlot_own bsi2_k h hd)
 have sb := fun t (h : noDst bsi2_o t = true) => (hsl t).trans (dSlot_base h)
 clear hsl
 rcases (by omega : i = 0 ∨ i = 1 ∨ i = 2 ∨ i = 3 ∨ i = 4 ∨ i = 5 ∨ i = 6 ∨ i = 7 ∨ i = 8 ∨ i = 9 ∨ i = 10 ∨ i = 11 ∨ i = 12 ∨ i = 13 ∨ i = 14 ∨ i = 15 ∨ i = 16) with rfl | rfl | rfl | rfl | rfl | rfl | rfl | rfl | rfl | rfl | rfl | rfl | rfl | rfl | rfl | rfl | rfl
 all_goals
  conv at hoi => lhs; whnf
  obtain rfl := Option.some.inj hoi
  conv => arg 2; whnf
 ·have r2 := (sb 2 (by kernel_rfl)).trans b2
  clear sl sb hdp hoi
  obtain ⟨p0, p1, p2, p3⟩ := cells4 ((hB.block h2 (lt_of_block hx2)).trans hx2); obtain ⟨q0, q1, q2, q3⟩ := cells4 ((hB.block h3 (lt_of_block hx3)).trans hx3)
  go_simp
  exact hK _ _ ⟨hB, fun _ => rfl, v1, v2, v3, v4, v5, v8, v9, v10, v11, v14, f6, f7, f12, f13, f15, f16⟩
 ·have d0 := hdp 0 (by kernel_rfl)
  have r11 := sl 0 11 (by kernel_rfl) d0
  rw [(v0 d0)] at r11
  clear sl sb hdp hoi
  obtain ⟨p0, p1, p2, p3⟩ := cells4 ((hB.block h2 (lt_of_block hx2)).trans hx2); obtain ⟨q0, q1, q2, q3⟩ := cells4 ((hB.block h3 (lt_of_block hx3)).trans hx3)
  go_simp
  exact hK _ _ ⟨hB, v0, fun _ => rfl, v2, v3, v4, v5, v8, v9, v10, v11, v14, f6, f7, f12, f13, f15, f16⟩
 ·have r2 := (sb 2 (by kernel_rfl)).trans b2
  clear sl sb hdp hoi
  obtain ⟨p0, p1, p2, p3⟩ := cells4 ((hB.block h2 (lt_of_block hx2)).trans hx2); obtain ⟨q0, q1, q2, q3⟩ := cells4 ((hB.block h3 (lt_of_block hx3)).trans hx3)
  go_simp
  exact hK _ _ ⟨hB, v0, v1, fun _ => rfl, v3, v4, v5, v8, v9, v10, v11, v14, f6, f7, f12, f13, f15, f16⟩
 ·have d2 := hdp 2 (by kernel_rfl)
  have r13 := sl 2 13 (by kernel_rfl) d2
  rw [(v2 d2)] at r13
  clear sl sb hdp hoi
  obtain ⟨p0, p1, p2, p3⟩ := cells4 ((hB.block h2 (lt_of_block hx2)).trans hx2); obtain ⟨q0, q1, q2, q3⟩ := cells4 ((hB.block h3 (lt_of_block hx3)).trans hx3)
  go_simp
  exact hK _ _ ⟨hB, v0, v1, v2, fun _ => rfl, v4, v5, v8, v9, v10, v11, v14, f6, f7, f12, f13, f15, f16⟩
 ·have r3 := (sb 3 (by kernel_rfl)).trans b3
  clear sl sb hdp hoi
  obtain ⟨p0, p1, p2, p3⟩ := cells4 ((hB.block h2 (lt_of_block hx2)).trans hx2); obtain ⟨q0, q1, q2, q3⟩ := cells4 ((hB.block h3 (lt_of_block hx3)).trans hx3)
  go_simp
  exact hK _ _ ⟨hB, v0, v1, v2, v3, fun _ => rfl, v5, v8, v9, v10, v11, v14, f6, f7, f12, f13, f15, f16⟩
 ·have d4 := hdp 4 (by kernel_rfl)
  have r15 := sl 4 15 (by kernel_rfl) d4
  rw [(v4 d4)] at r15
  clear sl sb hdp hoi
  obtain ⟨p0, p1, p2, p3⟩ := cells4 ((hB.block h2 (lt_of_block hx2)).trans hx2); obtain ⟨q0, q1, q2, q3⟩ := cells4 ((hB.block h3 (lt_of_block hx3)).trans hx3)
  go_simp
  exact hK _ _ ⟨hB, v0, v1, v2, v3, v4, fun _ => rfl, v8, v9, v10, v11, v14, f6, f7, f12, f13, f15, f16⟩
 ·have d3 := hdp 3 (by kernel_rfl)
  have d5 := hdp 5 (by kernel_rfl)
  have r14 := sl 3 14 (by kernel_rfl) d3
  rw [(v3 d3)] at r14
  have r16 := sl 5 16 (by kernel_rfl) d5
  rw [(v5 d5)] at r16
  clear sl sb hdp hoi
  have hE : Below w.heap.size w (w.alloc (.cells #[.slice As n cs, .slice Bs m dS] 22)) := (Below.refl _ _).alloc (Nat.le_refl _) _
  go_simp
  exact hK _ _ ⟨Below.then_ hB hE, v0, v1, v2, v3, v4, v5, v8, v9, v10, v11, v14, fun _ => ⟨⟨_, rfl⟩, fun _ => rdM_two (r1.below hB (Nat.le_refl _)) (r3.below hB (Nat.le_refl _))⟩, fun q => by obtain ⟨h1, B, h2, h3⟩ := f7 q; exact ⟨h1, B, h2, h3.below hE⟩, fun q => ⟨(f12 q).1, fun z => ((f12 q).2 z).below hE (Nat.le_refl _)⟩, fun q => by obtain ⟨h0, h1, B, h2, h3, h4⟩ := f13 q; exact ⟨h0, h1, B, h2, h3.below hE, h4⟩, fun q => by obtain ⟨g, g1, g2, g3, g4⟩ := f15 q; exact ⟨g, g1, g2, fun z => heap_keep (g3 z) hE, fun z => heap_keep (g4 z) hE⟩, f16⟩
 ·have d6 := hdp 6 (by kernel_rfl)
  have r17 := sl 6 17 (by kernel_rfl) d6
  clear sl sb hdp hoi
  obtain ⟨⟨g, ej⟩, l⟩ := f6 d6
  replace l := l hdi
  rw [ej] at r17 l
  go_wp2_with fail
  refine (Concat_any [S1, S2] (.slice (some ⟨g, 0, none⟩) 2 2) w l (by simp; omega)).mono ?_; rintro e W1 ⟨⟨v, rfl, o⟩, hE⟩
  rw [show [S1, S2].flatten = S1 ++ S2 by simp] at o
  obtain ⟨A, c, e⟩ := own_form o
  rw [List.length_append, show S1.length = n by omega, show S2.length = m by omega] at e
  exact hK _ _ ⟨Below.then_ hB hE, v0, v1, v2, v3, v4, v5, v8, v9, v10, v11, fun q => absurd (v14 q).1 (by rw [hdi]; decide), fun q => ⟨(f6 q).1, fun z => noB z⟩, fun _ => ⟨⟨_, _, e⟩, _, hB.size, o⟩, fun q => ⟨(f12 q).1, fun z => ((f12 q).2 z).below hE (Nat.le_refl _)⟩, fun q => absurd (f13 q).1 (by rw [hdi]; decide), fun q => by obtain ⟨g, g1, g2, g3, g4⟩ := f15 q; exact ⟨g, g1, g2, fun z => heap_keep (g3 z) hE, fun z => absurd (f16 z).2.1 (by rw [hdi]; decide)⟩, fun z => absurd (f16 z).2.1 (by rw [hdi]; decide)⟩
 ·have r2 := (sb 2 (by kernel_rfl)).trans b2
  clear sl sb hdp hoi
  obtain ⟨p0, p1, p2, p3⟩ := cells4 ((hB.block h2 (lt_of_block hx2)).trans hx2); obtain ⟨q0, q1, q2, q3⟩ := cells4 ((hB.block h3 (lt_of_block hx3)).trans hx3)
  go_simp
  exact hK _ _ ⟨hB, v0, v1, v2, v3, v4, v5, fun _ => rfl, v9, v10, v11, v14, f6, f7, f12, f13, f15, f16⟩
 ·have d8 := hdp 8 (by kernel_rfl)
  have r19 := sl 8 19 (by kernel_rfl) d8
  rw [(v8 d8)] at r19
  clear sl sb hdp hoi
  obtain ⟨p0, p1, p2, p3⟩ := cells4 ((hB.block h2 (lt_of_block hx2)).trans hx2); obtain ⟨q0, q1, q2, q3⟩ := cells4 ((hB.block h3 (lt_of_block hx3)).trans hx3)
  go_simp
  exact hK _ _ ⟨hB, v0, v1, v2, v3, v4, v5, v8, fun _ => rfl, v10, v11, v14, f6, f7, f12, f13, f15, f16⟩
 ·have r3 := (sb 3 (by kernel_rfl)).trans b3
  clear sl sb hdp hoi
  obtain ⟨p0, p1, p2, p3⟩ := cells4 ((hB.block h2 (lt_of_block hx2)).trans hx2); obtain ⟨q0, q1, q2, q3⟩ := cells4 ((hB.block h3 (lt_of_block hx3)).trans hx3)
  go_simp
  exact hK _ _ ⟨hB, v0, v1, v2, v3, v4, v5, v8, v9, fun _ => rfl, v11, v14, f6, f7, f12, f13, f15, f16⟩
 ·have d10 := hdp 10 (by kernel_rfl)
  have r21 := sl 10 21 (by kernel_rfl) d10
  rw [(v10 d10)] at r21
  clear sl sb hdp hoi
  obtain ⟨p0, p1, p2, p3⟩ := cells4 ((hB.block h2 (lt_of_block hx2)).trans hx2); obtain ⟨q0, q1, q2, q3⟩ := cells4 ((hB.block h3 (lt_of_block hx3)).trans hx3)
  go_simp
  exact hK _ _ ⟨hB, v0, v1, v2, v3, v4, v5, v8, v9, v10, fun _ => rfl, v14, f6, f7, f12, f13, f15, f16⟩
 ·have d9 := hdp 9 (by kernel_rfl)
  have d11 := hdp 11 (by kernel_rfl)
  have r20 := sl 9 20 (by kernel_rfl) d9
  rw [(v9 d9)] at r20
  have r22 := sl 11 22 (by kernel_rfl) d11
  rw [(v11 d11)] at r22
  clear sl sb hdp hoi
  have hE : Below w.heap.size w (w.alloc (.cells #[.slice Ae n ce, .slice Be m dE] 22)) := (Below.refl _ _).alloc (Nat.le_refl _) _
  go_simp
  exact hK _ _ ⟨Below.then_ hB hE, v0, v1, v2, v3, v4, v5, v8, v9, v10, v11, v14, fun q => ⟨(f6 q).1, fun z => ((f6 q).2 z).below hE (Nat.le_refl _)⟩, fun q => by obtain ⟨h1, B, h2, h3⟩ := f7 q; exact ⟨h1, B, h2, h3.below hE⟩, fun _ => ⟨⟨_, rfl⟩, fun _ => rdM_two (r2.below hB (Nat.le_refl _)) (r4.below hB (Nat.le_refl _))⟩, fun q => by obtain ⟨h0, h1, B, h2, h3, h4⟩ := f13 q; exact ⟨h0, h1, B, h2, h3.below hE, h4⟩, fun q => by obtain ⟨g, g1, g2, g3, g4⟩ := f15 q; exact ⟨g, g1, g2, fun z => heap_keep (g3 z) hE, fun z => heap_keep (g4 z) hE⟩, f16⟩
 ·have d7 := hdp 7 (by kernel_rfl)
  have d12 := hdp 12 (by kernel_rfl)
  have r23 := sl 12 23 (by kernel_rfl) d12
  clear sl sb hdp hoi
  obtain ⟨⟨g, ej⟩, l⟩ := f12 d12
  replace l := l hdi
  rw [ej] at r23 l
  go_wp2_with fail
  refine (Concat_any [E1, E2] (.slice (some ⟨g, 0, none⟩) 2 2) w l (by simp; omega)).mono ?_; rintro e W1 ⟨⟨v, rfl, o⟩, hE⟩
  rw [show [E1, E2].flatten = E1 ++ E2 by simp] at o
  obtain ⟨A, c, e⟩ := own_form o
  rw [List.length_append, show E1.length = n by omega, show E2.length = m by omega] at e
  obtain ⟨-, B7, -, o7⟩ := f7 d7
  exact hK _ _ ⟨Below.then_ hB hE, v0, v1, v2, v3, v4, v5, v8, v9, v10, v11, fun q => absurd (v14 q).2.1 (by rw [hdi]; decide), fun q => ⟨(f6 q).1, fun z => ((f6 q).2 z).below hE (Nat.le_refl _)⟩, fun q => by obtain ⟨h1, B, h2, h3⟩ := f7 q; exact ⟨h1, B, h2, h3.below hE⟩, fun q => ⟨(f12 q).1, fun z => noB z⟩, fun _ => ⟨d7, ⟨_, _, e⟩, _, hB.size, o, fun q hq => (o7.lt q hq).2⟩, fun q => by obtain ⟨g, g1, g2, g3, g4⟩ := f15 q; exact ⟨g, g1, g2, fun z => heap_keep (g3 z) hE, fun z => absurd (f16 z).2.2 (by rw [hdi]; decide)⟩, fun z => absurd (f16 z).2.2 (by rw [hdi]; decide)⟩
 ·have d1 := hdp 1 (by kernel_rfl)
  have d7 := hdp 7 (by kernel_rfl)
  have d13 := hdp 13 (by kernel_rfl)
  have r12 := sl 1 12 (by kernel_rfl) d1
  rw [(v1 d1)] at r12
  have r18 := sl 7 18 (by kernel_rfl) d7
  have r24 := sl 13 24 (by kernel_rfl) d13
  clear sl sb hdp hoi
  obtain ⟨⟨A7, c7, e7⟩, -⟩ := f7 d7
  obtain ⟨-, ⟨A9, c9, e9⟩, -⟩ := f13 d13
  rw [e7] at r18
  rw [e9] at r24
  go_simp
  exact hK _ _ ⟨hB, v0, v1, v2, v3, v4, v5, v8, v9, v10, v11, fun _ => ⟨d7, d13, by show _ = Value.agg #[_, V 7, V 13, _]; rw [e7, e9]; rfl⟩, f6, f7, f12, f13, f15, f16⟩
 ·clear sl sb hdp hoi
  have hE : Below w.heap.size w (w.alloc (.cells #[.int .i64 0, .slice none 0 0, .slice none 0 0, .slice none 0 0] 25)) := (Below.refl _ _).alloc (Nat.le_refl _) _
  go_simp
  exact hK _ _ ⟨Below.then_ hB hE, v0, v1, v2, v3, v4, v5, v8, v9, v10, v11, v14, fun q => ⟨(f6 q).1, fun z => ((f6 q).2 z).below hE (Nat.le_refl _)⟩, fun q => by obtain ⟨h1, B, h2, h3⟩ := f7 q; exact ⟨h1, B, h2, h3.below hE⟩, fun q => ⟨(f12 q).1, fun z => ((f12 q).2 z).below hE (Nat.le_refl _)⟩, fun q => by obtain ⟨h0, h1, B, h2, h3, h4⟩ := f13 q; exact ⟨h0, h1, B, h2, h3.below hE, h4⟩, fun _ => ⟨_, rfl, hB.size, fun _ => heap_alloc_new _ _, fun z => absurd (f16 z).1 (by rw [hdi]; decide)⟩, fun z => absurd (f16 z).1 (by rw [hdi]; decide)⟩
 ·have d0 := hdp 0 (by kernel_rfl)
  have d1 := hdp 1 (by kernel_rfl)
  have d2 := hdp 2 (by kernel_rfl)
  have d3 := hdp 3 (by kernel_rfl)
  have d4 := hdp 4 (by kernel_rfl)
  have d5 := hdp 5 (by kernel_rfl)
  have d6 := hdp 6 (by kernel_rfl)
  have d7 := hdp 7 (by kernel_rfl)
  have d8 := hdp 8 (by kernel_rfl)
  have d9 := hdp 9 (by kernel_rfl)
  have d10 := hdp 10 (by kernel_rfl)
  have d11 := hdp 11 (by kernel_rfl)
  have d12 := hdp 12 (by kernel_rfl)
  have d13 := hdp 13 (by kernel_rfl)
  have d14 := hdp 14 (by kernel_rfl)
  have d15 := hdp 15 (by kernel_rfl)
  have r6 := sl 15 6 (by kernel_rfl) d15
  have r25 := sl 14 25 (by kernel_rfl) d14
  rw [(v14 d14).2.2] at r25
  clear sl sb hdp hoi
  obtain ⟨g, e15, g1, g2, -⟩ := f15 d15
  replace g2 := g2 hdi
  obtain ⟨⟨A7, c7, e7⟩, B7, b7, o7⟩ := f7 d7
  obtain ⟨-, ⟨A9, c9, e9⟩, B9, b9, o9, l9⟩ := f13 d13
  rw [e15] at r6
  rw [e7, e9] at r25
  obtain ⟨p0, p1, p2, p3⟩ := cells4 g2
  obtain ⟨q0, q1, q2, q3⟩ := frozen4 g2
  go_simp
  exact hK undef _ ⟨hB.trans ((frame_set4 w g _ _ _ _).below hB.size (fun q h => by rw [h]; exact g1)), v0, v1, v2, v3, v4, v5, v8, v9, v10, v11, v14, fun q => ⟨(f6 q).1, fun z => absurd (show d 7 = false from z) (by rw [d7]; decide)⟩, fun q => ⟨(f7 q).1, B7, b7, set4_own g2 o7 _ _ _ _⟩, fun q => ⟨(f12 q).1, fun z => absurd (show d 13 = false from z) (by rw [d13]; decide)⟩, fun q => ⟨d7, (f13 q).2.1, B9, b9, set4_own g2 o9 _ _ _ _, l9⟩, fun _ => ⟨g, e15, g1, fun z => noB z, fun _ => by show _ = some (Obj.cells #[_, V 7, V 13, _] _ _); rw [e7, e9]; exact heap_set4 _ _ _ _ g2⟩, fun _ => ⟨d15, d7, d13⟩⟩
theorem bsi2 {z0 z1 z4 z5 z6 z7 z8 z9 z10 z11 z12 z13 z14 z15 z16 z17 z18 z19 z20 z21 z22 z23 z24 z25 z26 z27 z28 z29 z30 z31 z32 z33 z34 z35 z36 z37 z38 z39 z40 z41 z42 z43 z44 : Value} {ds : List Deferred} (X : World) (h2 h3 k n m : Nat) (As Ae At Bs Be Bt : Option Addr) (cs ce ct dS dE dT : Nat) (S1 E1 S2 E2 : List Int) (K0 : Act → World → Prop) (hP : Hid (bsi2_P X h2 h3 k n m As Ae At Bs Be Bt cs ce ct dS dE dT S1 E1 S2 E2)) (hQ : Hid (∀ (V : Nat → Value) (W : World), bsi2_F X h2 h3 k n m As Ae Bs Be cs ce dS dE S1 E1 S2 E2 (fun _ => true) V W → K0 ⟨#[z0, z1, (.pointer (some ⟨h2, 0, none⟩)), (.pointer (some ⟨h3, 0, none⟩)), z4, z5, V 15, z7, z8, z9, z10, V 0, V 1, V 2, V 3, V 4, V 5, V 6, V 7, V 8, V 9, V 10, V 11, V 12, V 13, V 14, z26, z27, z28, z29, z30, z31, z32, z33, z34, z35, z36, z37, z38, z39, z40, z41, z42, z43, z44], ds⟩ W)) (w : World) (hB : Hid (Below X.heap.size X w)) : Code.wp Tryd.prog (Code.region 2 bsi2_o true) (Exit.then K0 (fun _ _ _ => False)) ⟨#[z0, z1, (.pointer (some ⟨h2, 0, none⟩)), (.pointer (some ⟨h3, 0, none⟩)), z4, z5, z6, z7, z8, z9, z10, z11, z12, z13, z14, z15, z16, z17, z18, z19, z20, z21, z22, z23, z24, z25, z26, z27, z28, z29, z30, z31, z32, z33, z34, z35, z36, z37, z38, z39, z40, z41, z42, z43, z44], ds⟩ w := by
 have hs : bsi2_o.size = 17 := by kernel_rfl
 refine region_inv (bsi2_F X h2 h3 k n m As Ae Bs Be cs ce dS dE S1 E1 S2 E2) (by kernel_rfl) bsi2_k ?_ ?_ (by kernel_rfl) ?_
 ·rw [hs]
  exact ⟨hB.out.drew, fun q => absurd q (by decide), fun q => absurd q (by decide), fun q => absurd q (by decide), fun q => absurd q (by decide), fun q => absurd q (by decide), fun q => absurd q (by decide), fun q => absurd q (by decide), fun q => absurd q (by decide), fun q => absurd q (by decide), fun q => absurd q (by decide), fun q => absurd q (by decide), fun q => absurd q (by decide), fun q => absurd q (by decide), fun q => absurd q (by decide), fun q => absurd q (by decide), fun q => absurd q (by decide), fun q => absurd q (by decide)⟩
 ·exact bsi2_s hP.out rfl rfl
 ·intro V W hF
  exact (congrArg (fun x => K0 x W) (by kernel_rfl)).mpr (hQ.out V W hF)
end Go.Proofs.YtlpldfocljnpnaaDoor
namespace Go.Proofs.YtlpldfocljnpnaaDoor
open Go.RowKit Go.Shelf
theorem beside_1 {a b : Aut} {k n m : Nat} (oka : okA a k n) (okb : okA b k m) (hm : m ≤ 1000) (sa ea ta sb eb tb : Value) (ga gb gn gx x i j : Nat) (hx : x < k) (hi : i < n + m) (hj : j < n + m) (W : World) (ra : RdA W sa ea ta a) (rb : RdA W sb eb tb b)
  (hga : W.heap[ga]? = some (.cells #[.int .i64 (k : Nat), sa, ea, ta] 25 (0, 0))) (hgb : W.heap[gb]? = some (.cells #[.int .i64 (k : Nat), sb, eb, tb] 25 (0, 0))) (hgn : W.cell? ⟨gn, 0, none⟩ = some (.int .i64 (n : Nat))) (hgx : W.cell? ⟨gx, 0, none⟩ = some (.int .i64 (x : Nat))) :
  Calls Tryd.prog 118 (#[.int .i64 i, .int .i64 j] ++ #[.pointer (some ⟨gn, 0, none⟩), .pointer (some ⟨ga, 0, none⟩), .pointer (some ⟨gx, 0, none⟩), .pointer (some ⟨gb, 0, none⟩)]) W fun r w' => r = .returned (.int .i64 (sideE a b n x i j)) ∧ Below W.heap.size W w' := by
 have hE : Hid (sideE a b n x i j = if i < n ∧ j < n then G3 a x i j else if n ≤ i ∧ n ≤ j then G3 b x (i - n) (j - n) else 0) := Lib.hid rfl
 have x1 : (x : Int) < (k : Int) := by omega
 have x0 : (0 : Int) ≤ (x : Int) := by omega
 have i0 : (0 : Int) ≤ (i : Int) := by omega
 have j0 : (0 : Int) ≤ (j : Int) := by omega
 obtain ⟨p0, p1, p2, p3⟩ := cells4 hga
 obtain ⟨q0, q1, q2, q3⟩ := cells4 hgb
 generalize sideE a b n x i j = R at *
 by_cases h1 : i < n
 ·have y1 : (i : Int) < (n : Int) := by omega
  by_cases h2 : j < n
  ·have y2 : (j : Int) < (n : Int) := by omega
   obtain ⟨b1, o1, c1, b2, o2, c2, b3, o3, c3, rfl, e1, e2, e3⟩ := ra.num oka hx h1 h2
   have hr := Lib.hid (hE.out.trans (if_pos ⟨h1, h2⟩))
   clear hE ra rb oka okb
   generalize G3 a x i j = v at *
   go_enter Tryd.func118, Tryd.ntmps118
   go_wp2
   go_ret
   exact ⟨by rw [hr.out]; rfl, Below.refl _ _⟩
  ·have y2 : ¬ (j : Int) < (n : Int) := by omega
   have y3 : ¬ (n : Int) ≤ (i : Int) := by omega
   have hr := Lib.hid (hE.out.trans ((if_neg (by omega)).trans (if_neg (by omega))))
   clear hE ra rb oka okb
   go_enter Tryd.func118, Tryd.ntmps118
   go_wp2
   go_ret
   exact ⟨by rw [hr.out]; rfl, Below.refl _ _⟩
 ·have y1 : ¬ (i : Int) < (n : Int) := by omega
  have y3 : (n : Int) ≤ (i : Int) := by omega
  by_cases h2 : j < n
  ·have y2 : ¬ (n : Int) ≤ (j : Int) := by omega
   have hr := Lib.hid (hE.out.trans ((if_neg (by omega)).trans (if_neg (by omega))))
   clear hE ra rb oka okb
   go_enter Tryd.func118, Tryd.ntmps118
   go_wp2
   go_ret
   exact ⟨by rw [hr.out]; rfl, Below.refl _ _⟩
  ·have y2 : (n : Int) ≤ (j : Int) := by omega
   have hr := hE.out.trans ((if_neg (by omega)).trans (if_pos (by omega)))
   obtain ⟨p, hp⟩ : ∃ p, i - n = p := ⟨_, rfl⟩
   obtain ⟨r, hr'⟩ : ∃ r, j - n = r := ⟨_, rfl⟩
   have hpm : p < m := by omega
   have hrm : r < m := by omega
   rw [hp, hr'] at hr
   obtain ⟨b1, o1, c1, b2, o2, c2, b3, o3, c3, rfl, e1, e2, e3⟩ := rb.num okb hx hpm hrm
   have w1 : IntKind.i64.wrap ((i : Int) - (n : Int)) = (p : Int) := by rw [IntKind.wrap_i64]; omega
   have w2 : IntKind.i64.wrap ((j : Int) - (n : Int)) = (r : Int) := by rw [IntKind.wrap_i64]; omega
   have z1 : (p : Int) < (m : Int) := by omega
   have z2 : (r : Int) < (m : Int) := by omega
   have z3 : (0 : Int) ≤ (p : Int) := by omega
   have z4 : (0 : Int) ≤ (r : Int) := by omega
   have HS : W.drew.heap[gb]? = some (.cells #[.int .i64 (k : Nat), sb, eb, .slice (some ⟨b1, o1, none⟩) k c1] 25 (0, 0)) ∧ W.drew.cell? ⟨gx, 0, none⟩ = some (.int .i64 (x : Nat)) ∧ W.drew.cell? ⟨gn, 0, none⟩ = some (.int .i64 (n : Nat)) ∧ W.drew.cell? ⟨b1, o1 + x, none⟩ = some (.slice (some ⟨b2, o2, none⟩) m c2) ∧ W.drew.cell? ⟨b2, o2 + p, none⟩ = some (.slice (some ⟨b3, o3, none⟩) m c3) ∧ W.drew.cell? ⟨b3, o3 + r, none⟩ = some (.int .i64 (G3 b x p r)) := ⟨hgb, hgx, hgn, e1, e2, e3⟩
   have hB := Lib.hid ((Below.refl W.heap.size W).drew)
   replace hr := Lib.hid hr
   replace hp := Lib.hid hp
   replace hr' := Lib.hid hr'
   clear hE ra rb oka okb
   generalize G3 b x p r = v at *
   go_enter Tryd.func118, Tryd.ntmps118
   go_wp2
   refine D_begin (fun W => W.heap[gb]? = some (.cells #[.int .i64 (k : Nat), sb, eb, .slice (some ⟨b1, o1, none⟩) k c1] 25 (0, 0)) ∧ W.cell? ⟨gx, 0, none⟩ = some (.int .i64 (x : Nat)) ∧ W.cell? ⟨gn, 0, none⟩ = some (.int .i64 (n : Nat)) ∧ W.cell? ⟨b1, o1 + x, none⟩ = some (.slice (some ⟨b2, o2, none⟩) m c2) ∧ W.cell? ⟨b2, o2 + p, none⟩ = some (.slice (some ⟨b3, o3, none⟩) m c3) ∧ W.cell? ⟨b3, o3 + r, none⟩ = some (.int .i64 v)) (fun _ => True) 99 (by kernel_rfl) ?_
   change wpAnyD _ _ _ _ _ _ _ _ _ _ W.drew
   simp only [List.size_toArray, List.length_cons, List.length_nil, Nat.reduceAdd, Array.replicate_succ, Array.replicate_zero, List.push_toArray, List.append_toArray, List.nil_append, List.cons_append]
   refine Dt 0 rfl ?_ HS (fun _ => trivial) ?_ ?_
   rotate_left; · intro w1 hw1; obtain ⟨u0, u1, u2, u3, u4, u5⟩ := hw1; obtain ⟨q0, q1, q2, q3⟩ := cells4 u0; go_simp; try with_reducible rfl
   try simp only [Act.put, s_1, s_2, s_3, s_4, s_5, s_6]
   refine Dt 1 rfl ?_ HS (fun _ => trivial) ?_ ?_
   rotate_left; · intro w1 hw1; obtain ⟨u0, u1, u2, u3, u4, u5⟩ := hw1; obtain ⟨q0, q1, q2, q3⟩ := cells4 u0; go_simp; try with_reducible rfl
   try simp only [Act.put, s_1, s_2, s_3, s_4, s_5, s_6]
   refine Dt 2 rfl ?_ HS (fun _ => trivial) ?_ ?_
   rotate_left; · intro w1 hw1; obtain ⟨u0, u1, u2, u3, u4, u5⟩ := hw1; obtain ⟨q0, q1, q2, q3⟩ := cells4 u0; go_simp; try with_reducible rfl
   try simp only [Act.put, s_1, s_2, s_3, s_4, s_5, s_6]
   refine Dt 3 rfl ?_ HS (fun _ => trivial) ?_ ?_
   rotate_left; · intro w1 hw1; obtain ⟨u0, u1, u2, u3, u4, u5⟩ := hw1; obtain ⟨q0, q1, q2, q3⟩ := cells4 u0; go_simp; try with_reducible rfl
   try simp only [Act.put, s_1, s_2, s_3, s_4, s_5, s_6]
   refine Dt 4 rfl ?_ HS (fun _ => trivial) ?_ ?_
   rotate_left; · intro w1 hw1; obtain ⟨u0, u1, u2, u3, u4, u5⟩ := hw1; obtain ⟨q0, q1, q2, q3⟩ := cells4 u0; go_simp; try with_reducible rfl
   try simp only [Act.put, s_1, s_2, s_3, s_4, s_5, s_6]
   refine Dt 5 rfl ?_ HS (fun _ => trivial) ?_ ?_
   rotate_left; · intro w1 hw1; obtain ⟨u0, u1, u2, u3, u4, u5⟩ := hw1; obtain ⟨q0, q1, q2, q3⟩ := cells4 u0; go_simp; try with_reducible rfl
   try simp only [Act.put, s_1, s_2, s_3, s_4, s_5, s_6]
   refine Dt 6 rfl ?_ HS (fun _ => trivial) ?_ ?_
   rotate_left; · intro w1 hw1; obtain ⟨u0, u1, u2, u3, u4, u5⟩ := hw1; obtain ⟨q0, q1, q2, q3⟩ := cells4 u0; go_simp; try with_reducible rfl
   try simp only [Act.put, s_1, s_2, s_3, s_4, s_5, s_6]
   refine Dt 7 rfl ?_ HS (fun _ => trivial) ?_ ?_
   rotate_left; · intro w1 hw1; obtain ⟨u0, u1, u2, u3, u4, u5⟩ := hw1; obtain ⟨q0, q1, q2, q3⟩ := cells4 u0; go_simp; try with_reducible rfl
   try simp only [Act.put, s_1, s_2, s_3, s_4, s_5, s_6]
   refine Dt 8 rfl ?_ HS (fun _ => trivial) ?_ ?_
   rotate_left; · intro w1 hw1; obtain ⟨u0, u1, u2, u3, u4, u5⟩ := hw1; obtain ⟨q0, q1, q2, q3⟩ := cells4 u0; go_simp; try with_reducible rfl
   try simp only [Act.put, s_1, s_2, s_3, s_4, s_5, s_6]
   refine Dt 9 rfl ?_ HS (fun _ => trivial) ?_ ?_
   rotate_left; · intro w1 hw1; obtain ⟨u0, u1, u2, u3, u4, u5⟩ := hw1; obtain ⟨q0, q1, q2, q3⟩ := cells4 u0; go_simp; try with_reducible rfl
   try simp only [Act.put, s_1, s_2, s_3, s_4, s_5, s_6]
   refine Dt 10 rfl ?_ HS (fun _ => trivial) ?_ ?_
   rotate_left; · intro w1 hw1; obtain ⟨u0, u1, u2, u3, u4, u5⟩ := hw1; obtain ⟨q0, q1, q2, q3⟩ := cells4 u0; go_simp; try with_reducible rfl
   try simp only [Act.put, s_1, s_2, s_3, s_4, s_5, s_6]
   refine Dt 11 rfl ?_ HS (fun _ => trivial) ?_ ?_
   rotate_left; · intro w1 hw1; obtain ⟨u0, u1, u2, u3, u4, u5⟩ := hw1; obtain ⟨q0, q1, q2, q3⟩ := cells4 u0; go_simp; try with_reducible rfl
   try simp only [Act.put, s_1, s_2, s_3, s_4, s_5, s_6]
   refine Dt 12 rfl ?_ HS (fun _ => trivial) ?_ ?_
   rotate_left; · intro w1 hw1; obtain ⟨u0, u1, u2, u3, u4, u5⟩ := hw1; obtain ⟨q0, q1, q2, q3⟩ := cells4 u0; go_simp; try with_reducible rfl
   try simp only [Act.put, s_1, s_2, s_3, s_4, s_5, s_6]
   refine Dt 13 rfl ?_ HS (fun _ => trivial) ?_ ?_
   rotate_left; · intro w1 hw1; obtain ⟨u0, u1, u2, u3, u4, u5⟩ := hw1; obtain ⟨q0, q1, q2, q3⟩ := cells4 u0; go_simp; try with_reducible rfl
   try simp only [Act.put, s_1, s_2, s_3, s_4, s_5, s_6]
   refine Dt 14 rfl ?_ HS (fun _ => trivial) ?_ ?_
   rotate_left; · intro w1 hw1; obtain ⟨u0, u1, u2, u3, u4, u5⟩ := hw1; obtain ⟨q0, q1, q2, q3⟩ := cells4 u0; go_simp; try with_reducible rfl
   try simp only [Act.put, s_1, s_2, s_3, s_4, s_5, s_6]
   refine Dt 15 rfl ?_ HS (fun _ => trivial) ?_ ?_
   rotate_left; · intro w1 hw1; obtain ⟨u0, u1, u2, u3, u4, u5⟩ := hw1; obtain ⟨q0, q1, q2, q3⟩ := cells4 u0; go_simp; try with_reducible rfl
   try simp only [Act.put, s_1, s_2, s_3, s_4, s_5, s_6]
   refine D_done (by kernel_rfl) ?_ _
   clear q0 q1 q2 q3 p0 p1 p2 p3
   go_wp2
   go_ret
   exact ⟨by rw [hr.out]; rfl, hB.out⟩
end Go.Proofs.YtlpldfocljnpnaaDoor
namespace Go.Proofs.YtlpldfocljnpnaaDoor
open Go.RowKit Go.Shelf
theorem OwnM.form {w : World} {B : Nat} {v : Value} {rs : List (List Int)} (h : OwnM w B v rs) : ∃ A c, v = .slice A rs.length c := by
 obtain ⟨vs, h1, -⟩ := h
 exact own_form h1
def OwnW (l : Int) (w : World) (S E : List Int) (M : List (List (List Int))) (r : Value) (w' : World) : Prop :=
 ∃ s e t us lo H B1 B2, r = .agg #[.int .i64 l, s, e, t] ∧ OwnI w' B1 s S ∧ OwnI w' B2 e E ∧ w.heap.size ≤ B1 ∧ w.heap.size ≤ B2 ∧ (∀ q, s.ownBlock = some q → q < B2) ∧ (∀ q, s.ownBlock = some q → q < lo 0) ∧ (∀ q, e.ownBlock = some q → q < lo 0) ∧ OwnQ w' H t us lo M ∧ w.heap.size ≤ H
theorem OwnW.rd {l : Int} {w w' : World} {S E : List Int} {M : List (List (List Int))} {r : Value} (h : OwnW l w S E M r w') (hS : S.length ≤ 1000000) (hE : E.length ≤ 1000000) (hk : M.length ≤ 1000000) (hM : ∀ m ∈ M, m.length ≤ 1000000 ∧ ∀ r ∈ m, r.length ≤ 1000000) : ∃ A1 A2 A3 c1 c2 c3, r = .agg #[.int .i64 l, .slice A1 S.length c1, .slice A2 E.length c2, .slice A3 M.length c3] ∧ RdA w' (.slice A1 S.length c1) (.slice A2 E.length c2) (.slice A3 M.length c3) ⟨l, S, E, M⟩ := by
 obtain ⟨s, e, t, us, lo, H, B1, B2, rfl, h1, h2, -, -, -, -, -, h3, -⟩ := h
 obtain ⟨A1, c1, rfl⟩ := own_form h1
 obtain ⟨A2, c2, rfl⟩ := own_form h2
 obtain ⟨A3, c3, rfl⟩ := own_form h3.outer
 exact ⟨A1, A2, A3, c1, c2, c3, rfl, h1.rd (by omega), h2.rd (by omega), h3.rd hk hM⟩
def msP (f : Nat → Nat → Nat → Int) (N q : Nat) : List (List (List Int)) := (List.range q).map fun x => mat (f x) N N
theorem msP_len (f : Nat → Nat → Nat → Int) (N q : Nat) : (msP f N q).length = q := by simp [msP]
theorem msP_succ (f : Nat → Nat → Nat → Int) (N q : Nat) : msP f N q ++ [mat (f q) N N] = msP f N (q + 1) := by
 rw [msP, msP, List.range_succ, List.map_append, List.map_singleton]
theorem four_all (w : World) (a b c d : Obj) : Below w.heap.size w ((((w.alloc a).alloc b).alloc c).alloc d) ∧ ((((w.alloc a).alloc b).alloc c).alloc d).heap.size = w.heap.size + 4 ∧ ((((w.alloc a).alloc b).alloc c).alloc d).heap[w.heap.size]? = some a ∧ ((((w.alloc a).alloc b).alloc c).alloc d).heap[w.heap.size + 1]? = some b ∧ ((((w.alloc a).alloc b).alloc c).alloc d).heap[w.heap.size + 1 + 1]? = some c ∧ ((((w.alloc a).alloc b).alloc c).alloc d).heap[w.heap.size + 1 + 1 + 1]? = some d := by
 obtain ⟨f1, f2, f3⟩ := four w a b c d
 have f0 := heap_alloc_new w a
 exact ⟨((((Below.refl _ w).alloc (Nat.le_refl _) _).alloc (by simp) _).alloc (by simp; omega) _).alloc (by simp; omega) _, by simp, heap_keep f0 (((((Below.refl _ _).alloc (Nat.le_refl _) b).alloc (by simp) c).alloc (by simp) d)), f1, f2, f3⟩
theorem wgt_own {w C D : World} {H g : Nat} {l : Int} {s e t v : Value} {us : List Value} {lo : Nat → Nat} {S E xs : List Int} {M : List (List (List Int))} {B : Nat} (h : WgtS w H g l s e t us lo S E M C) (hf : Frame (fun q => t.ownBlock = some q ∨ q = g) C D) (o : OwnI C B v xs) : OwnI D B v xs :=
 hf.owns o (fun q hq hF => by
  obtain ⟨cs, hcs⟩ := own_ty o hq
  rcases hF with hF | rfl
  ·obtain ⟨cs', h'⟩ := own_ty h.mats.outer hF
   exact type_ne hcs h' (by decide)
  ·exact type_ne hcs h.box (by decide))
theorem set4_ownQ {V : World} {g H : Nat} {t : Value} {us : List Value} {lo : Nat → Nat} {M : List (List (List Int))} {cs : Array Value} (z : V.heap[g]? = some (.cells cs 25 (0, 0))) (o : OwnQ V H t us lo M) (a b c d : Value) : OwnQ ((((V.setCell ⟨g, 0, none⟩ a).setCell ⟨g, 1, none⟩ b).setCell ⟨g, 2, none⟩ c).setCell ⟨g, 3, none⟩ d) H t us lo M :=
 o.frame (frame_set4 V g a b c d) fun q cs' T hq hT => by
  subst hq
  rw [z] at hT
  cases hT
  exact ⟨by decide, by decide, by decide⟩
theorem infoRR2 : (Tryd.prog.info? 59).map (fun i => (i.zero, i.size, i.bytes)) = some (some (.slice none 0 0), 1, 24) := infoRR
theorem beside_any {a b : Aut} {k n m : Nat} (oka : okA a k n) (okb : okA b k m) (hn : n ≤ 400) (hm : m ≤ 400) (sa ea ta sb eb tb : Value) (w : World) (ra : RdA w sa ea ta a) (rb : RdA w sb eb tb b) :
  Calls Tryd.prog 79 #[.agg #[.int .i64 (k : Nat), sa, ea, ta], .agg #[.int .i64 (k : Nat), sb, eb, tb]] w fun r w' => (∃ v, r = .returned v ∧ OwnW (k : Nat) w (a.start ++ b.start) (a.end_ ++ b.end_) (besideA a b).steps v w') ∧ Below w.heap.size w w' := by
 obtain ⟨As, cs, e1, -, -⟩ := ra.start.cell_
 obtain ⟨Ae, ce, e2, -, -⟩ := ra.end_.cell_
 obtain ⟨At, ct, e3, -, -⟩ := RdS.open_ ([] : List (List Int)) ra.steps
 obtain ⟨Bs, dS, e4, -, -⟩ := rb.start.cell_
 obtain ⟨Be, dE, e5, -, -⟩ := rb.end_.cell_
 obtain ⟨Bt, dT, e6, -, -⟩ := RdS.open_ ([] : List (List Int)) rb.steps
 rw [oka.start.1] at e1
 rw [oka.end_.1] at e2
 rw [oka.steps] at e3
 rw [okb.start.1] at e4
 rw [okb.end_.1] at e5
 rw [okb.steps] at e6
 subst e1 e2 e3 e4 e5 e6
 have hk := oka.pos
 have hres : Hid ((besideA a b).steps = msP (sideE a b n) (n + m) k) := Lib.hid (by
  unfold besideA mkA msP
  rw [oka.steps, oka.start.1, okb.start.1])
 have hlen := Lib.hid (show a.start.length = n ∧ b.start.length = m ∧ a.end_.length = n ∧ b.end_.length = m ∧ n ≤ 1000 ∧ m ≤ 1000 from ⟨oka.start.1, okb.start.1, oka.end_.1, okb.end_.1, by omega, by omega⟩)
 obtain ⟨hBX, hzX, x0, x1, x2, x3⟩ := four_all w (.cells #[.int .i64 (k : Nat), .slice As n cs, .slice Ae n ce, .slice At k ct] 25) (.cells #[.int .i64 (k : Nat), .slice Bs m dS, .slice Be m dE, .slice Bt k dT] 25) (.cells #[.int .i64 0, .slice none 0 0, .slice none 0 0, .slice none 0 0] 25) (.cells #[.int .i64 (n : Nat)] 3)
 have hra := Lib.hid ra
 have hrb := Lib.hid rb
 have hoka := Lib.hid oka
 have hokb := Lib.hid okb
 obtain ⟨iT, hiT, jT0, jT1, jT2⟩ := info_parts infoRR2
 have q0 := cells4 x0
 obtain ⟨q0, q1, q2, q3⟩ := q0
 have hx0 := Lib.hid x0
 have hx1 := Lib.hid x1
 have hx2 := Lib.hid x2
 have hx3 := Lib.hid x3
 clear ra rb oka okb x0 x1 x2 x3
 obtain ⟨N, hN⟩ : ∃ N, n + m = N := ⟨_, rfl⟩
 go_enter Tryd.func79, Tryd.ntmps79
 go_upto_region 2 with fail
 generalize ((((w.alloc (.cells #[.int .i64 (k : Nat), .slice As n cs, .slice Ae n ce, .slice At k ct] 25)).alloc (.cells #[.int .i64 (k : Nat), .slice Bs m dS, .slice Be m dE, .slice Bt k dT] 25)).alloc (.cells #[.int .i64 0, .slice none 0 0, .slice none 0 0, .slice none 0 0] 25)).alloc (.cells #[.int .i64 (n : Nat)] 3)) = X at *
 clear q0 q1 q2 q3
 refine Code.wp_mono (Q := Exit.then _ (fun _ _ _ => False)) (no_exit _ _) ?_
 refine bsi2 X _ _ k n m As Ae At Bs Be Bt cs ce ct dS dE dT a.start a.end_ b.start b.end_ _ (Lib.hid ⟨hx0.out, hx1.out, hra.out.start.below hBX (Nat.le_refl _), hra.out.end_.below hBX (Nat.le_refl _), hrb.out.start.below hBX (Nat.le_refl _), hrb.out.end_.below hBX (Nat.le_refl _), hlen.out⟩) (Lib.hid ?_) X (Lib.hid (Below.refl _ _))
 intro U W ⟨hB, _, _, _, _, _, _, _, _, _, _, _, _, f7, _, f13, f15, _⟩
 obtain ⟨⟨A7, c7, e7⟩, B7, b7, o7⟩ := f7 rfl
 obtain ⟨-, ⟨A13, c13, e13⟩, B13, b13, o13, s13⟩ := f13 rfl
 obtain ⟨g15, e15, b15, -, x15⟩ := f15 rfl
 rw [e15]
 rw [e7] at o7 s13
 rw [e13] at o13
 replace x15 := x15 rfl
 rw [e7, e13] at x15
 replace hB := Lib.hid hB
 replace o7 := Lib.hid o7
 replace b7 := Lib.hid b7
 replace o13 := Lib.hid o13
 replace b13 := Lib.hid b13
 replace s13 := Lib.hid s13
 replace b15 := Lib.hid b15
 replace x15 := Lib.hid x15
 clear f7 f13 f15 e7 e13 e15
 rename (∀ (a : Act) (w : World), Code.wp _ _ _ a w → _) => hK2
 refine hK2 _ _ ?_
 clear hK2
 conv => arg 4; dsimp only
 have hzW := hB.out.size
 have h7 := Lib.hid (fun q (hq : (Value.slice A7 (n + m) c7).ownBlock = some q) => (o7.out.lt q hq).2)
 have h13 := Lib.hid (fun q (hq : (Value.slice A13 (n + m) c13).ownBlock = some q) => (o13.out.lt q hq).2)
 have hS0 : Hid (∃ t us lo, WgtS X X.heap.size g15 (k : Nat) (.slice A7 (n + m) c7) (.slice A13 (n + m) c13) t us lo (a.start ++ b.start) (a.end_ ++ b.end_) (msP (sideE a b n) N 0) W ∧ W.heap.size ≤ lo 0 ∧ OwnI W B7 (.slice A7 (n + m) c7) (a.start ++ b.start) ∧ OwnI W B13 (.slice A13 (n + m) c13) (a.end_ ++ b.end_)) :=
  Lib.hid ⟨_, [], _, ⟨hB.out, Nat.le_refl _, x15.out, b15.out, .inr ⟨_, b7.out, o7.out⟩, .inr ⟨_, b13.out, o13.out⟩, OwnQ.nil W hzW (Nat.le_refl _)⟩, Nat.le_refl _, o7.out, o13.out⟩
 have cX := Lib.hid (fun W' (hW : Below X.heap.size X W') => (⟨(hW.block _ (lt_of_block hx0.out)).trans hx0.out, (hW.block _ (lt_of_block hx1.out)).trans hx1.out, (hW.block _ (lt_of_block hx2.out)).trans hx2.out, cell_1 ((hW.block _ (lt_of_block hx3.out)).trans hx3.out)⟩ : _ ∧ _ ∧ _ ∧ _))
 clear o7 o13 x15
 obtain ⟨u0, u1, u2, u3⟩ := cX.out W hB.out
 obtain ⟨q0, q1, q2, q3⟩ := cells4 u0
 have eN : (n : Int) + (m : Int) = (N : Int) := by omega
 have eW : IntKind.i64.wrap ((n : Int) + (m : Int)) = (N : Int) := by rw [IntKind.wrap_i64]; omega
 have hN4 : N ≤ 800 := by omega
 replace hN := Lib.hid hN
 clear u0 u1 u2 u3
 go_wp2
 go_loopw [28] (fun i wr => ∃ q : Nat, q ≤ k ∧ i = .int .i64 q ∧ Hid (∃ t us lo, WgtS X X.heap.size g15 (k : Nat) (.slice A7 (n + m) c7) (.slice A13 (n + m) c13) t us lo (a.start ++ b.start) (a.end_ ++ b.end_) (msP (sideE a b n) N q) wr ∧ W.heap.size ≤ lo 0 ∧ OwnI wr B7 (.slice A7 (n + m) c7) (a.start ++ b.start) ∧ OwnI wr B13 (.slice A13 (n + m) c13) (a.end_ ++ b.end_))) (fun i _ => k - (intOf i).toNat)
 case atStart => exact ⟨0, Nat.zero_le _, rfl, hS0⟩
 case round =>
  obtain ⟨q, hq, rfl, hR⟩ := hrel
  obtain ⟨t, us, lo, hS, hlo, o7, o13⟩ := hR.out
  by_cases hlt : q < k
  ·obtain ⟨A9, c9, e9⟩ := own_form hS.mats.outer
   rw [msP_len] at e9
   subst e9
   have hlow := hS.low
   have hX5 : Below wr.heap.size wr (wr.alloc (.cells #[.int .i64 (q : Nat)] 3)) := (Below.refl _ _).alloc (Nat.le_refl _) _
   have hS5 := Lib.hid (hS.kept hX5)
   replace o7 := Lib.hid (OwnI.below o7 hX5)
   replace o13 := Lib.hid (OwnI.below o13 hX5)
   have x5 := heap_alloc_new wr (.cells #[.int .i64 (q : Nat)] 3)
   have hlow5 := Lib.hid (Below.then_ hlow hX5)
   have hot := Lib.hid (show wr.ownsRow X.heap.size 59 1 (.slice A9 q c9) q us from by have := hS.mats.outer; rwa [msP_len] at this)
   replace hot := Lib.hid (own_below hot.out hX5)
   have y1 : (q : Int) < (k : Int) := by omega
   have y0 : (0 : Int) ≤ (q : Int) := by omega
   have hzr : wr.heap.size < (wr.alloc (.cells #[.int .i64 (q : Nat)] 3)).heap.size := by simp
   replace x5 := Lib.hid x5
   clear hS hR hX5 hlow
   go_upto_region 6 with fail
   generalize wr.alloc (.cells #[.int .i64 (q : Nat)] 3) = X5 at *
   generalize hbq : wr.heap.size = bq at *
   have hmx := Lib.hid (fun W1 (hW : Below X5.heap.size X5 W1) => mtx_any (sideE a b n q) N 118 #[.pointer (some ⟨w.heap.size + 1 + 1 + 1, 0, none⟩), .pointer (some ⟨w.heap.size, 0, none⟩), .pointer (some ⟨bq, 0, none⟩), .pointer (some ⟨w.heap.size + 1, 0, none⟩)] (enters_of Tryd.func118 (by kernel_rfl) rfl) W1 (by omega) (fun W2 i j hB2 hi hj => by
    have hl2 : Below X.heap.size X W2 := hlow5.out.trans ((hW.trans (hB2.mono hW.size)).mono hlow5.out.size)
    have hw2 : Below w.heap.size w W2 := hBX.trans (hl2.mono hBX.size)
    obtain ⟨u0, u1, u2, u3⟩ := cX.out W2 hl2
    have x52 := (hB2.block _ (Nat.lt_of_lt_of_le (lt_of_block x5.out) hW.size)).trans ((hW.block _ (lt_of_block x5.out)).trans x5.out)
    exact beside_1 hoka.out hokb.out (by omega) _ _ _ _ _ _ w.heap.size (w.heap.size + 1) (w.heap.size + 1 + 1 + 1) bq q i j hlt (by rw [hN.out]; exact hi) (by rw [hN.out]; exact hj) W2 (hra.out.below hw2 (Nat.le_refl _)) (hrb.out.below hw2 (Nat.le_refl _)) u0 u1 u3 (cell_1 x52)))
   have hb5 : Hid (Below X5.heap.size X5 X5) := Lib.hid (Below.refl _ _)
   refine Code.wp_mono (Q := Exit.inBlock 1 (Exit.then _ (fun _ _ _ => False))) (no_exit_in 1 _ _) ?_
   refine D_begin (fun W => Below X.heap.size X W) (fun W => W.heap[g15]? = some (.cells #[.int .i64 (k : Nat), .slice A7 (n + m) c7, .slice A13 (n + m) c13, .slice A9 q c9] 25 (0, 0))) 12 (by kernel_rfl) ?_
   change wpAnyD _ _ _ _ _ _ _ _ _ _ X5.drew
   simp only [List.size_toArray, List.length_cons, List.length_nil, Nat.reduceAdd, Array.replicate_succ, Array.replicate_zero, List.push_toArray, List.append_toArray, List.nil_append, List.cons_append]
   have hD9 : Below X5.heap.size X5 X5.drew := (Below.refl _ _).drew
   replace hS5 := Lib.hid (hS5.out.kept hD9)
   replace hb5 := Lib.hid (Below.then_ hb5.out hD9)
   replace o7 := Lib.hid (own_below o7.out hD9)
   replace o13 := Lib.hid (own_below o13.out hD9)
   replace hot := Lib.hid (own_below hot.out hD9)
   have z_D9 := hD9.size; clear hD9
   generalize X5.drew = D9 at *
   refine Dt 0 rfl ?_ (by first | exact hlow9.out | exact hlow8.out | exact hS5.out.low) (fun _ => (by first | exact hbx8.out | exact hS5.out.box)) ?_ ?_
   rotate_left; · intro w1 hw1; obtain ⟨u0, u1, u2, u3⟩ := cX.out w1 hw1; obtain ⟨q0, q1, q2, q3⟩ := cells4 u1; go_simp; try with_reducible rfl
   try simp only [Act.put, s_1, s_2, s_3, s_4, s_5, s_6]
   refine Dt 2 rfl ?_ (by first | exact hlow9.out | exact hlow8.out | exact hS5.out.low) (fun _ => (by first | exact hbx8.out | exact hS5.out.box)) ?_ ?_
   rotate_left; · intro w1 hw1; obtain ⟨u0, u1, u2, u3⟩ := cX.out w1 hw1; obtain ⟨q0, q1, q2, q3⟩ := cells4 u1; go_simp; try with_reducible rfl
   try simp only [Act.put, s_1, s_2, s_3, s_4, s_5, s_6]
   refine Dt 3 rfl ?_ (by first | exact hlow9.out | exact hlow8.out | exact hS5.out.low) (fun _ => (by first | exact hbx8.out | exact hS5.out.box)) ?_ ?_
   rotate_left; · intro w1 hw1; obtain ⟨u0, u1, u2, u3⟩ := cX.out w1 hw1; obtain ⟨q0, q1, q2, q3⟩ := cells4 u1; go_simp; try with_reducible rfl
   try simp only [Act.put, s_1, s_2, s_3, s_4, s_5, s_6]
   refine Dt 7 rfl ?_ (by first | exact hlow9.out | exact hlow8.out | exact hS5.out.low) (fun _ => (by first | exact hbx8.out | exact hS5.out.box)) ?_ ?_
   rotate_left; · intro w1 hw1; obtain ⟨u0, u1, u2, u3⟩ := cX.out w1 hw1; obtain ⟨q0, q1, q2, q3⟩ := cells4 u1; go_simp; try with_reducible rfl
   try simp only [Act.put, s_1, s_2, s_3, s_4, s_5, s_6]
   refine D_load (i := 1) (v := ?_) rfl (by kernel_rfl) (by kernel_rfl) (by kernel_rfl) (by kernel_rfl) (by kernel_rfl) rfl (fun _ _ _ h => h) (Or.inl ⟨by rfl, ?_⟩) (by first | exact hlow9.out | exact hlow8.out | exact hS5.out.low) (by first | exact hbx8.out | exact hS5.out.box) ?_
   rotate_left; · intro w1 hw1; obtain ⟨t1, t2, t3, t4⟩ := cells4 hw1.2; go_simp; try with_reducible rfl
   try simp only [Act.put, s_1, s_2, s_3, s_4, s_5, s_6]
   refine Dt 4 rfl ?_ (by first | exact hlow9.out | exact hlow8.out | exact hS5.out.low) (fun _ => (by first | exact hbx8.out | exact hS5.out.box)) ?_ ?_
   rotate_left; · intro w1 hw1; obtain ⟨u0, u1, u2, u3⟩ := cX.out w1 hw1; obtain ⟨q0, q1, q2, q3⟩ := cells4 u1; go_simp; try with_reducible rfl
   try simp only [Act.put, s_1, s_2, s_3, s_4, s_5, s_6]
   refine Dt 5 rfl ?_ (by first | exact hlow9.out | exact hlow8.out | exact hS5.out.low) (fun _ => (by first | exact hbx8.out | exact hS5.out.box)) ?_ ?_
   rotate_left; · intro w1 hw1; obtain ⟨u0, u1, u2, u3⟩ := cX.out w1 hw1; obtain ⟨q0, q1, q2, q3⟩ := cells4 u1; go_simp; try with_reducible rfl
   try simp only [Act.put, s_1, s_2, s_3, s_4, s_5, s_6]
   refine Dt 6 rfl ?_ (by first | exact hlow9.out | exact hlow8.out | exact hS5.out.low) (fun _ => (by first | exact hbx8.out | exact hS5.out.box)) ?_ ?_
   rotate_left; · intro w1 hw1; obtain ⟨u0, u1, u2, u3⟩ := cX.out w1 hw1; obtain ⟨q0, q1, q2, q3⟩ := cells4 u1; go_simp; try with_reducible rfl
   try simp only [Act.put, s_1, s_2, s_3, s_4, s_5, s_6]
   refine D_one (i := 8) (by kernel_rfl) rfl ?_
   intro K hK
   rw [if_pos (by rfl)]
   have htop := hS5.out.mats.top
   obtain ⟨B8, hB8⟩ : ∃ B8, D9.heap.size = B8 := ⟨_, rfl⟩
   go_wp2_with fail
   refine (hmx.out D9 hb5.out).mono ?_; rintro e D9_1 ⟨⟨v8, rfl, o8⟩, hE1⟩
   replace hS5 := Lib.hid (hS5.out.kept hE1)
   replace hb5 := Lib.hid (Below.then_ hb5.out hE1)
   replace o7 := Lib.hid (own_below o7.out hE1)
   replace o13 := Lib.hid (own_below o13.out hE1)
   replace hot := Lib.hid (own_below hot.out hE1)
   rw [hB8] at o8
   obtain ⟨A8, c8, e8⟩ := o8.form
   rw [mat_len] at e8
   subst e8
   replace o8 := Lib.hid o8
   rw [hB8, msP_len] at htop
   have z_1 := hE1.size; clear hE1
   refine hK _ _ (by first | exact hlow9.out | exact hlow8.out | exact hS5.out.low) (fun _ _ => (by first | exact hbx8.out | exact hS5.out.box)) ?_
   clear hK K
   try simp only [Act.put, s_1, s_2, s_3, s_4, s_5, s_6]
   refine D_one (i := 9) (by kernel_rfl) rfl ?_
   intro K hK
   rw [if_pos (by rfl)]
   go_simp
   have hE2 : Below D9_1.heap.size D9_1 (D9_1.alloc (.cells #[.slice A8 N c8] 59)) := (Below.refl _ _).alloc (Nat.le_refl _) _
   replace hS5 := Lib.hid (hS5.out.kept hE2)
   replace hb5 := Lib.hid (Below.then_ hb5.out hE2)
   replace o7 := Lib.hid (own_below o7.out hE2)
   replace o13 := Lib.hid (own_below o13.out hE2)
   replace hot := Lib.hid (own_below hot.out hE2)
   replace o8 := Lib.hid (o8.out.below hE2)
   have n9 : Hid (∀ j u, [.slice A8 N c8][j]? = some u → (D9_1.alloc (.cells #[.slice A8 N c8] 59)).cell? ((⟨D9_1.heap.size, 0, none⟩ : Addr).add j) = some u) := Lib.hid (news_new _ _ _)
   have z_2 : D9_1.heap.size < (D9_1.alloc (.cells #[.slice A8 N c8] 59)).heap.size := by simp
   clear hE2
   refine hK _ _ (by first | exact hlow9.out | exact hlow8.out | exact hS5.out.low) (fun _ _ => (by first | exact hbx8.out | exact hS5.out.box)) ?_
   clear hK K
   try simp only [Act.put, s_1, s_2, s_3, s_4, s_5, s_6]
   generalize (D9_1.alloc (.cells #[.slice A8 N c8] 59)) = D9_2 at *
   refine D_one (i := 10) (by kernel_rfl) rfl ?_
   intro K hK
   refine step_app1 (by rfl) _ _ 23 (by rfl) 59 iT _ 1 24 Tryd.underlying23 hiT jT0 jT1 jT2 (by rfl) (by omega) (by omega) X.heap.size (.slice A9 q c9) q us (by rfl) hot.out ⟨_, 0, none⟩ [.slice A8 N c8] (by rfl) rfl n9.out (by simp [Value.oneCell']) (by omega) hS5.out.low.size ?_
   intro A10 c10 X8 hown8 hgrow8 hat8
   obtain ⟨hbx8, ⟨lo', hS9, hlo'⟩, hF9, hlow8⟩ := hS5.out.snoc (B := B8) (by rw [msP_len]; exact htop) (by omega) o8.out (by rw [msP_len]; exact hown8) hgrow8
   have hlow9 := Lib.hid hS9.low
   have hmon := hS5.out.mats.mono 0 q (Nat.zero_le _)
   replace o7 := Lib.hid (wgt_own hS5.out hF9 o7.out)
   replace o13 := Lib.hid (wgt_own hS5.out hF9 o13.out)
   obtain ⟨t1, t2, t3, t4⟩ := cells4 hbx8
   have f3 := froz hbx8 3
   rw [msP_succ] at hS9
   replace hS9 := Lib.hid hS9
   replace hbx8 := Lib.hid hbx8
   replace hlow8 := Lib.hid hlow8
   rw [msP_len] at hlo'
   have hlo9 : W.heap.size ≤ lo' 0 := by rw [hlo']; split <;> omega
   clear hown8 hgrow8 hat8 hF9 n9 hlo'
   refine hK _ _ (by first | exact hlow9.out | exact hlow8.out | exact hS5.out.low) (fun _ _ => (by first | exact hbx8.out | exact hS5.out.box)) ?_
   clear hK K
   try simp only [Act.put, s_1, s_2, s_3, s_4, s_5, s_6]
   refine Dt 11 rfl ?_ (by first | exact hlow9.out | exact hlow8.out | exact hS5.out.low) (fun _ => (by first | exact hbx8.out | exact hS5.out.box)) ?_ ?_
   rotate_left; · intro w1 hw1; obtain ⟨u0, u1, u2, u3⟩ := cX.out w1 hw1; obtain ⟨q0, q1, q2, q3⟩ := cells4 u1; go_simp; try with_reducible rfl
   try simp only [Act.put, s_1, s_2, s_3, s_4, s_5, s_6]
   refine D_one (i := 12) (by kernel_rfl) rfl ?_
   intro K hK
   rw [if_pos (by rfl)]
   go_simp
   refine hK _ _ (by first | exact hlow9.out | exact hlow8.out | exact hS5.out.low) (fun h _ => absurd rfl h) ?_
   clear hK K
   try simp only [Act.put, s_1, s_2, s_3, s_4, s_5, s_6]
   refine D_done (by kernel_rfl) ?_ _
   rename (∀ (a : Act) (w : World), Code.wp _ _ _ a w → _) => hK2
   refine hK2 _ _ ?_
   clear hK2
   generalize X8.setCell ⟨g15, 3, none⟩ (.slice A10 (q + 1) c10) = X9 at *
   go_wp2
   go_roundw
   case rel => exact ⟨q + 1, by omega, by go_num, Lib.hid ⟨_, _, lo', hS9.out, hlo9, o7.out, o13.out⟩⟩
   case measure => simp [intOf]; omega
  ·obtain rfl : q = k := by omega
   obtain ⟨A9, c9, e9⟩ := own_form hS.mats.outer
   rw [msP_len] at e9
   subst e9
   have hlow := hS.low
   obtain ⟨u0, u1, u2, u3⟩ := cX.out wr hlow
   obtain ⟨q0, q1, q2, q3⟩ := cells4 hS.box
   obtain ⟨p0, p1, p2, p3⟩ := cells4 u2
   obtain ⟨f0, f1, f2, f3⟩ := frozen4 u2
   have hS' := Lib.hid hS
   have u2' := Lib.hid u2
   replace o7 := Lib.hid o7
   replace o13 := Lib.hid o13
   clear hS hR u0 u1 u2 hlow
   go_wp2
   refine bodyPost_ret (res_c1 rfl _ _ (w.heap.size + 1 + 1) 25 #[.int .i64 (q : Nat), .slice A7 (n + m) c7, .slice A13 (n + m) c13, .slice A9 q c9] (0, 0) _ rfl (heap_set4 _ _ _ _ u2'.out) rfl rfl rfl) rfl ?_
   have hzb := hBX.size
   refine ⟨⟨_, rfl, _, _, _, us, lo, X.heap.size, B7, B13, rfl, set4_own u2'.out o7.out _ _ _ _, set4_own u2'.out o13.out _ _ _ _, Nat.le_trans hzb b7.out, Nat.le_trans hzb b13.out, s13.out, fun g hg => Nat.lt_of_lt_of_le (h7.out g hg) hlo, fun g hg => Nat.lt_of_lt_of_le (h13.out g hg) hlo, ?_, hzb⟩, ?_⟩
   ·rw [hres.out, hN.out]
    exact set4_ownQ u2'.out hS'.out.mats _ _ _ _
   ·exact (hBX.trans (hS'.out.low.mono hzb)).trans ((frame_set4 wr (w.heap.size + 1 + 1) _ _ _ _).below (by have := hS'.out.low.size; omega) (fun g hg => by omega))
end Go.Proofs.YtlpldfocljnpnaaDoor
