/- Sum, Times, Folded: their contracts. -/
import Derived.Test.YtfljkcmijnhgkaaDoorJoined
namespace Go.Proofs.YtfljkcmijnhgkaaDoor
open Go.RowKit Go.Shelf
set_option linter.unusedSimpArgs false

def kSum : ByteArray := ⟨#[115, 117, 109]⟩
def kTimes : ByteArray := ⟨#[116, 105, 109, 101, 115]⟩
def kFolded : ByteArray := ⟨#[102, 111, 108, 100, 101, 100]⟩
/-- The table joins is as the program's text lays it. -/
def Joins (W : World) : Prop := JoinAt W kSum 170 172 ∧ JoinAt W kTimes 173 174 ∧ JoinAt W kFolded 175 176
theorem Joins.below {W W' : World} (h : Joins W) (hb : Below W.heap.size W W') : Joins W' := ⟨h.1.below hb, h.2.1.below hb, h.2.2.below hb⟩
theorem two_push (A : Array Obj) (a b : Obj) : ((A.push a).push b)[A.size]? = some a ∧ ((A.push a).push b)[A.size + 1]? = some b := by
  refine ⟨?_, ?_⟩
  · rw [Array.getElem?_push, if_neg (by simp), Array.getElem?_push, if_pos rfl]
  · rw [Array.getElem?_push, if_pos (by simp)]
set_option maxRecDepth 100000 in
set_option maxHeartbeats 800000 in
theorem Sum_any (r s : Rule) (v u : Value) (w : World) (hv : RdR w v r) (hu : RdR w u s) (hJ : Joins w) :
    Calls Tryd.prog 40 #[v, u] w (RuleOut (joinR 0 r s) w) := by
  have hv' := hv
  have hu' := hu
  obtain ⟨a1, b1, rfl, ra1, rb1⟩ := hv
  obtain ⟨a2, b2, rfl, ra2, rb2⟩ := hu
  obtain ⟨A1, d1, rfl, -⟩ := ra1.open_
  obtain ⟨A2, d2, rfl, -⟩ := rb1.open_
  obtain ⟨A3, d3, rfl, -⟩ := ra2.open_
  obtain ⟨A4, d4, rfl, -⟩ := rb2.open_
  obtain ⟨X, hX, hsX, hBX, hx2⟩ : ∃ X, ((w.alloc (.cells #[.slice A1 r.by_.length d1, .slice A2 r.start.length d2] 49)).alloc (.cells #[.slice A3 s.by_.length d3, .slice A4 s.start.length d4] 49)).alloc (.cells #[.slice none 0 0, .slice none 0 0] 49) = X ∧ X.heap.size = w.heap.size + 3 ∧ Below w.heap.size w X ∧ X.heap[w.heap.size + 2]? = some (.cells #[.slice none 0 0, .slice none 0 0] 49 (0, 0)) := by
    obtain ⟨-, -, g2⟩ := three w (.cells #[.slice A1 r.by_.length d1, .slice A2 r.start.length d2] 49) (.cells #[.slice A3 s.by_.length d3, .slice A4 s.start.length d4] 49) (.cells #[.slice none 0 0, .slice none 0 0] 49)
    exact ⟨_, rfl, by simp, (((Below.refl _ w).alloc (Nat.le_refl _) _).alloc (by simp) _).alloc (by simp; omega) _, g2⟩
  have hc : Calls Tryd.prog 116 #[.agg #[.slice A1 r.by_.length d1, .slice A2 r.start.length d2], .agg #[.slice A3 s.by_.length d3, .slice A4 s.start.length d4], .string ⟨#[115, 117, 109]⟩] X (RuleOut (joinR 0 r s) X) :=
    joined_any 0 kSum 170 172 r s _ _ X (hv'.below hBX (Nat.le_refl _)) (hu'.below hBX (Nat.le_refl _)) (hJ.below hBX).1 (enters_of Tryd.func170 (by kernel_rfl) rfl) (enters_of Tryd.func172 (by kernel_rfl) rfl)
      (fun m n W hm hn => by have h := joins_2 m n W hm hn; simpa [joinO] using h) (fun a b n va vb W ha hb h1 h2 h3 ra rb => joins_1 a b n va vb W ha hb h1 h2 ra rb)
  replace hc := Lib.hid hc
  replace hX := Lib.hid hX
  clear hv' hu' ra1 rb1 ra2 rb2 hJ
  generalize r.by_.length = n1 at *
  generalize s.by_.length = n3 at *
  generalize r.start.length = n2 at *
  generalize s.start.length = n4 at *
  go_enter Tryd.func40, Tryd.ntmps40
  go_wp2_with fail
  rw [hX.out]
  refine hc.out.mono ?_; rintro e W1 ⟨v, rfl, ⟨a, b, rfl, oa, ob⟩, hB1⟩
  obtain ⟨A5, c5, rfl⟩ : ∃ A c, a = .slice A (joinR 0 r s).1.by_.length c := by have h := oa; unfold OwnI at h; exact own_form h
  obtain ⟨A6, c6, rfl⟩ : ∃ A c, b = .slice A (joinR 0 r s).1.start.length c := by have h := ob; unfold OwnI at h; exact own_form h
  generalize joinR 0 r s = R at *
  have hg := (hB1.block (w.heap.size + 2) (by omega)).trans hx2
  obtain ⟨e0, e1', e2', e3'⟩ := ret_cell hg
  replace hg := Lib.hid hg
  have hB2 := Lib.hid (Below.then_ hBX hB1)
  replace oa := Lib.hid oa
  replace ob := Lib.hid ob
  clear hB1 hx2 hc
  go_wp2
  refine bodyPost_ret (res_ct rfl _ _ (w.heap.size + 2) 49 #[.slice A5 R.1.by_.length c5, .slice A6 R.1.start.length c6] (0, 0) _ rfl (heap_set2 _ _ hg.out) rfl rfl rfl) rfl ?_
  exact ⟨_, rfl, ⟨_, _, rfl, own_two oa.out (by omega) (by omega) _ _, own_two ob.out (by omega) (by omega) _ _⟩, (hB2.out.setCell (p := ⟨w.heap.size + 2, 0, none⟩) (by simp) _).setCell (p := ⟨w.heap.size + 2, 1, none⟩) (by simp) _⟩
set_option maxRecDepth 100000 in
set_option maxHeartbeats 800000 in
theorem Times_any (r s : Rule) (v u : Value) (w : World) (hv : RdR w v r) (hu : RdR w u s) (hJ : Joins w) :
    Calls Tryd.prog 41 #[v, u] w (RuleOut (joinR 1 r s) w) := by
  have hv' := hv
  have hu' := hu
  obtain ⟨a1, b1, rfl, ra1, rb1⟩ := hv
  obtain ⟨a2, b2, rfl, ra2, rb2⟩ := hu
  obtain ⟨A1, d1, rfl, -⟩ := ra1.open_
  obtain ⟨A2, d2, rfl, -⟩ := rb1.open_
  obtain ⟨A3, d3, rfl, -⟩ := ra2.open_
  obtain ⟨A4, d4, rfl, -⟩ := rb2.open_
  obtain ⟨X, hX, hsX, hBX, hx2⟩ : ∃ X, ((w.alloc (.cells #[.slice A1 r.by_.length d1, .slice A2 r.start.length d2] 49)).alloc (.cells #[.slice A3 s.by_.length d3, .slice A4 s.start.length d4] 49)).alloc (.cells #[.slice none 0 0, .slice none 0 0] 49) = X ∧ X.heap.size = w.heap.size + 3 ∧ Below w.heap.size w X ∧ X.heap[w.heap.size + 2]? = some (.cells #[.slice none 0 0, .slice none 0 0] 49 (0, 0)) := by
    obtain ⟨-, -, g2⟩ := three w (.cells #[.slice A1 r.by_.length d1, .slice A2 r.start.length d2] 49) (.cells #[.slice A3 s.by_.length d3, .slice A4 s.start.length d4] 49) (.cells #[.slice none 0 0, .slice none 0 0] 49)
    exact ⟨_, rfl, by simp, (((Below.refl _ w).alloc (Nat.le_refl _) _).alloc (by simp) _).alloc (by simp; omega) _, g2⟩
  have hc : Calls Tryd.prog 116 #[.agg #[.slice A1 r.by_.length d1, .slice A2 r.start.length d2], .agg #[.slice A3 s.by_.length d3, .slice A4 s.start.length d4], .string ⟨#[116, 105, 109, 101, 115]⟩] X (RuleOut (joinR 1 r s) X) :=
    joined_any 1 kTimes 173 174 r s _ _ X (hv'.below hBX (Nat.le_refl _)) (hu'.below hBX (Nat.le_refl _)) (hJ.below hBX).2.1 (enters_of Tryd.func173 (by kernel_rfl) rfl) (enters_of Tryd.func174 (by kernel_rfl) rfl)
      (fun m n W hm hn => by have h := joins_4 m n W hm hn; simpa [joinO] using h) (fun a b n va vb W ha hb h1 h2 h3 ra rb => joins_3 a b n va vb W ha hb h1 h2 ra rb)
  replace hc := Lib.hid hc
  replace hX := Lib.hid hX
  clear hv' hu' ra1 rb1 ra2 rb2 hJ
  generalize r.by_.length = n1 at *
  generalize s.by_.length = n3 at *
  generalize r.start.length = n2 at *
  generalize s.start.length = n4 at *
  go_enter Tryd.func41, Tryd.ntmps41
  go_wp2_with fail
  rw [hX.out]
  refine hc.out.mono ?_; rintro e W1 ⟨v, rfl, ⟨a, b, rfl, oa, ob⟩, hB1⟩
  obtain ⟨A5, c5, rfl⟩ : ∃ A c, a = .slice A (joinR 1 r s).1.by_.length c := by have h := oa; unfold OwnI at h; exact own_form h
  obtain ⟨A6, c6, rfl⟩ : ∃ A c, b = .slice A (joinR 1 r s).1.start.length c := by have h := ob; unfold OwnI at h; exact own_form h
  generalize joinR 1 r s = R at *
  have hg := (hB1.block (w.heap.size + 2) (by omega)).trans hx2
  obtain ⟨e0, e1', e2', e3'⟩ := ret_cell hg
  replace hg := Lib.hid hg
  have hB2 := Lib.hid (Below.then_ hBX hB1)
  replace oa := Lib.hid oa
  replace ob := Lib.hid ob
  clear hB1 hx2 hc
  go_wp2
  refine bodyPost_ret (res_ct rfl _ _ (w.heap.size + 2) 49 #[.slice A5 R.1.by_.length c5, .slice A6 R.1.start.length c6] (0, 0) _ rfl (heap_set2 _ _ hg.out) rfl rfl rfl) rfl ?_
  exact ⟨_, rfl, ⟨_, _, rfl, own_two oa.out (by omega) (by omega) _ _, own_two ob.out (by omega) (by omega) _ _⟩, (hB2.out.setCell (p := ⟨w.heap.size + 2, 0, none⟩) (by simp) _).setCell (p := ⟨w.heap.size + 2, 1, none⟩) (by simp) _⟩
set_option maxRecDepth 100000 in
set_option maxHeartbeats 800000 in
theorem Folded_any (r s : Rule) (v u : Value) (w : World) (hv : RdR w v r) (hu : RdR w u s) (hJ : Joins w) :
    Calls Tryd.prog 42 #[v, u] w (RuleOut (joinR 2 r s) w) := by
  have hv' := hv
  have hu' := hu
  obtain ⟨a1, b1, rfl, ra1, rb1⟩ := hv
  obtain ⟨a2, b2, rfl, ra2, rb2⟩ := hu
  obtain ⟨A1, d1, rfl, -⟩ := ra1.open_
  obtain ⟨A2, d2, rfl, -⟩ := rb1.open_
  obtain ⟨A3, d3, rfl, -⟩ := ra2.open_
  obtain ⟨A4, d4, rfl, -⟩ := rb2.open_
  obtain ⟨X, hX, hsX, hBX, hx2⟩ : ∃ X, ((w.alloc (.cells #[.slice A1 r.by_.length d1, .slice A2 r.start.length d2] 49)).alloc (.cells #[.slice A3 s.by_.length d3, .slice A4 s.start.length d4] 49)).alloc (.cells #[.slice none 0 0, .slice none 0 0] 49) = X ∧ X.heap.size = w.heap.size + 3 ∧ Below w.heap.size w X ∧ X.heap[w.heap.size + 2]? = some (.cells #[.slice none 0 0, .slice none 0 0] 49 (0, 0)) := by
    obtain ⟨-, -, g2⟩ := three w (.cells #[.slice A1 r.by_.length d1, .slice A2 r.start.length d2] 49) (.cells #[.slice A3 s.by_.length d3, .slice A4 s.start.length d4] 49) (.cells #[.slice none 0 0, .slice none 0 0] 49)
    exact ⟨_, rfl, by simp, (((Below.refl _ w).alloc (Nat.le_refl _) _).alloc (by simp) _).alloc (by simp; omega) _, g2⟩
  have hc : Calls Tryd.prog 116 #[.agg #[.slice A1 r.by_.length d1, .slice A2 r.start.length d2], .agg #[.slice A3 s.by_.length d3, .slice A4 s.start.length d4], .string ⟨#[102, 111, 108, 100, 101, 100]⟩] X (RuleOut (joinR 2 r s) X) :=
    joined_any 2 kFolded 175 176 r s _ _ X (hv'.below hBX (Nat.le_refl _)) (hu'.below hBX (Nat.le_refl _)) (hJ.below hBX).2.2 (enters_of Tryd.func175 (by kernel_rfl) rfl) (enters_of Tryd.func176 (by kernel_rfl) rfl)
      (fun m n W hm hn => by have h := joins_6 m n W hm hn; simpa [joinO] using h) (fun a b n va vb W ha hb h1 h2 h3 ra rb => joins_5 a b n va vb W ha hb h1 h2 h3 ra rb)
  replace hc := Lib.hid hc
  replace hX := Lib.hid hX
  clear hv' hu' ra1 rb1 ra2 rb2 hJ
  generalize r.by_.length = n1 at *
  generalize s.by_.length = n3 at *
  generalize r.start.length = n2 at *
  generalize s.start.length = n4 at *
  go_enter Tryd.func42, Tryd.ntmps42
  go_wp2_with fail
  rw [hX.out]
  refine hc.out.mono ?_; rintro e W1 ⟨v, rfl, ⟨a, b, rfl, oa, ob⟩, hB1⟩
  obtain ⟨A5, c5, rfl⟩ : ∃ A c, a = .slice A (joinR 2 r s).1.by_.length c := by have h := oa; unfold OwnI at h; exact own_form h
  obtain ⟨A6, c6, rfl⟩ : ∃ A c, b = .slice A (joinR 2 r s).1.start.length c := by have h := ob; unfold OwnI at h; exact own_form h
  generalize joinR 2 r s = R at *
  have hg := (hB1.block (w.heap.size + 2) (by omega)).trans hx2
  obtain ⟨e0, e1', e2', e3'⟩ := ret_cell hg
  replace hg := Lib.hid hg
  have hB2 := Lib.hid (Below.then_ hBX hB1)
  replace oa := Lib.hid oa
  replace ob := Lib.hid ob
  clear hB1 hx2 hc
  go_wp2
  refine bodyPost_ret (res_ct rfl _ _ (w.heap.size + 2) 49 #[.slice A5 R.1.by_.length c5, .slice A6 R.1.start.length c6] (0, 0) _ rfl (heap_set2 _ _ hg.out) rfl rfl rfl) rfl ?_
  exact ⟨_, rfl, ⟨_, _, rfl, own_two oa.out (by omega) (by omega) _ _, own_two ob.out (by omega) (by omega) _ _⟩, (hB2.out.setCell (p := ⟨w.heap.size + 2, 0, none⟩) (by simp) _).setCell (p := ⟨w.heap.size + 2, 1, none⟩) (by simp) _⟩
end Go.Proofs.YtfljkcmijnhgkaaDoor
