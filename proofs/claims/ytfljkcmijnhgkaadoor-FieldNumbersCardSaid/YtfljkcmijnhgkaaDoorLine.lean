/- Lines: lined and its next: their contracts. -/
import Derived.Test.YtfljkcmijnhgkaaDoorBoth
import Derived.Laws.EntriesVeiled
namespace Go.Proofs.YtfljkcmijnhgkaaDoor
open Go.RowKit Go.Shelf
set_option linter.unusedSimpArgs false

/-- The next term by a window of the last twelve, the newest one first. -/
def nextW (bs win : List Int) : Int := psum (fun k => bs.getD k 0 * win.getD k 0 % 65521) bs.length % 65521
/-- THE VALUE v IS A LINE OF THE RULE r: its next has caught block g. -/
def LineV (w : World) (v : Value) (r : Rule) (a b : Value) (g : Nat) : Prop :=
  v = .agg #[a, b, .func (.func 144) #[] #[.pointer (some ⟨g, 0, none⟩)]] ∧ RdI w a r.by_ ∧ RdI w b r.start ∧ w.heap[g]? = some (.cells #[a, b] 49 (0, 0))
theorem LineV.below {w w' : World} {v a b : Value} {r : Rule} {g : Nat} (h : LineV w v r a b g) (hB : Below w.heap.size w w') : LineV w' v r a b g :=
  ⟨h.1, h.2.1.below hB (Nat.le_refl _), h.2.2.1.below hB (Nat.le_refl _), (hB.block g (Array.getElem?_eq_some_iff.1 h.2.2.2).1).trans h.2.2.2⟩
set_option maxRecDepth 100000 in
set_option maxHeartbeats 1600000 in
theorem lined_any (r : Rule) (v : Value) (w : World) (h : RdR w v r) :
    Calls Tryd.prog 111 #[v] w fun e w' => (∃ a b, e = .returned (.agg #[a, b, .func (.func 144) #[] #[.pointer (some ⟨w.heap.size, 0, none⟩)]]) ∧ v = .agg #[a, b] ∧ w'.heap[w.heap.size]? = some (.cells #[a, b] 49 (0, 0))) ∧ Below w.heap.size w w' := by
  obtain ⟨a, b, rfl, ra, rb⟩ := h
  obtain ⟨A1, d1, rfl, -⟩ := ra.open_
  obtain ⟨A2, d2, rfl, -⟩ := rb.open_
  clear ra rb
  generalize r.by_.length = n1 at *
  generalize r.start.length = n2 at *
  go_enter Tryd.func111, Tryd.ntmps111
  go_wp2
  refine bodyPost_ret (results_cell_row rfl _ _ (w.heap.size + 1) 110 #[.slice A1 n1 d1, .slice A2 n2 d2, .func (.func 144) #[] #[.pointer (some ⟨w.heap.size, 0, none⟩)]] (0, 0) _ rfl ?_ Tryd.underlying110 rfl rfl) rfl ?_
  · rw [(((Below.refl ((w.alloc (.cells #[.slice A1 n1 d1, .slice A2 n2 d2] 49)).alloc (.cells #[.slice A1 n1 d1, .slice A2 n2 d2, .func (.func 144) #[] #[.pointer (some ⟨w.heap.size, 0, none⟩)]] 110)).heap.size _).alloc (Nat.le_refl _) _).block (w.heap.size + 1) (by simp))]
    have h := heap_alloc_new (w.alloc (.cells #[.slice A1 n1 d1, .slice A2 n2 d2] 49)) (.cells #[.slice A1 n1 d1, .slice A2 n2 d2, .func (.func 144) #[] #[.pointer (some ⟨w.heap.size, 0, none⟩)]] 110)
    rwa [World.size_alloc] at h
  · refine ⟨⟨_, _, rfl, rfl, ?_⟩, (((Below.refl _ _).alloc (Nat.le_refl _) _).alloc (by simp) _).alloc (by simp; omega) _⟩
    have hB : Below (w.alloc (.cells #[.slice A1 n1 d1, .slice A2 n2 d2] 49)).heap.size (w.alloc (.cells #[.slice A1 n1 d1, .slice A2 n2 d2] 49)) (((w.alloc (.cells #[.slice A1 n1 d1, .slice A2 n2 d2] 49)).alloc (.cells #[.slice A1 n1 d1, .slice A2 n2 d2, .func (.func 144) #[] #[.pointer (some ⟨w.heap.size, 0, none⟩)]] 110)).alloc (.cells #[.slice A1 n1 d1, .slice A2 n2 d2, .func (.func 144) #[] #[.pointer (some ⟨w.heap.size, 0, none⟩)]] 110)) := ((Below.refl _ _).alloc (Nat.le_refl _) _).alloc (by simp) _
    exact (hB.block w.heap.size (by simp)).trans (heap_alloc_new _ _)
theorem win_get {w : World} {g : Nat} {t : TypeId} (x0 x1 x2 x3 x4 x5 x6 x7 x8 x9 x10 x11 : Int)
    (h : w.heap[g]? = some (.cells #[.int .i64 x0, .int .i64 x1, .int .i64 x2, .int .i64 x3, .int .i64 x4, .int .i64 x5, .int .i64 x6, .int .i64 x7, .int .i64 x8, .int .i64 x9, .int .i64 x10, .int .i64 x11] t (0, 0))) :
    ∀ k, k < 12 → w.cell? ⟨g, k, none⟩ = some (.int .i64 ([x0, x1, x2, x3, x4, x5, x6, x7, x8, x9, x10, x11].getD k 0)) := by
  intro k hk
  unfold World.cell?
  rw [h]
  have : k = 0 ∨ k = 1 ∨ k = 2 ∨ k = 3 ∨ k = 4 ∨ k = 5 ∨ k = 6 ∨ k = 7 ∨ k = 8 ∨ k = 9 ∨ k = 10 ∨ k = 11 := by omega
  rcases this with rfl | rfl | rfl | rfl | rfl | rfl | rfl | rfl | rfl | rfl | rfl | rfl <;> rfl
set_option maxRecDepth 100000 in
set_option maxHeartbeats 1600000 in
theorem next_any (bs : List Int) (a b : Value) (g : Nat) (x0 x1 x2 x3 x4 x5 x6 x7 x8 x9 x10 x11 : Int) (w : World) (hl : bs.length ≤ 12) (hb : ∀ x ∈ bs, 0 ≤ x ∧ x < 65521)
    (hx : ∀ x ∈ [x0, x1, x2, x3, x4, x5, x6, x7, x8, x9, x10, x11], 0 ≤ x ∧ x < 65521) (ra : RdI w a bs) (hg : w.heap[g]? = some (.cells #[a, b] 49 (0, 0))) :
    Calls Tryd.prog 144 (#[.agg #[.int .i64 x0, .int .i64 x1, .int .i64 x2, .int .i64 x3, .int .i64 x4, .int .i64 x5, .int .i64 x6, .int .i64 x7, .int .i64 x8, .int .i64 x9, .int .i64 x10, .int .i64 x11]] ++ #[.pointer (some ⟨g, 0, none⟩)]) w fun e w' =>
      e = .returned (.int .i64 (nextW bs [x0, x1, x2, x3, x4, x5, x6, x7, x8, x9, x10, x11])) ∧ Below w.heap.size w w' := by
  have hbx : Below w.heap.size w (w.alloc (.cells #[.int .i64 x0, .int .i64 x1, .int .i64 x2, .int .i64 x3, .int .i64 x4, .int .i64 x5, .int .i64 x6, .int .i64 x7, .int .i64 x8, .int .i64 x9, .int .i64 x10, .int .i64 x11] 114)) := (Below.refl _ _).alloc (Nat.le_refl _) _
  have hw := win_get x0 x1 x2 x3 x4 x5 x6 x7 x8 x9 x10 x11 (heap_alloc_new w (.cells #[.int .i64 x0, .int .i64 x1, .int .i64 x2, .int .i64 x3, .int .i64 x4, .int .i64 x5, .int .i64 x6, .int .i64 x7, .int .i64 x8, .int .i64 x9, .int .i64 x10, .int .i64 x11] 114))
  have hgl := (Array.getElem?_eq_some_iff.1 hg).1
  have hg2 := (hbx.block g hgl).trans hg
  obtain ⟨A, c, rfl, l1, l2, h3⟩ := (ra.below hbx (Nat.le_refl _)).open_
  have hc0 : (w.alloc (.cells #[.int .i64 x0, .int .i64 x1, .int .i64 x2, .int .i64 x3, .int .i64 x4, .int .i64 x5, .int .i64 x6, .int .i64 x7, .int .i64 x8, .int .i64 x9, .int .i64 x10, .int .i64 x11] 114)).cell? ⟨g, 0, none⟩ = some (.slice A bs.length c) := by unfold World.cell?; rw [hg2]; rfl
  have hN : Hid (nextW bs [x0, x1, x2, x3, x4, x5, x6, x7, x8, x9, x10, x11] = psum (fun k => bs.getD k 0 * [x0, x1, x2, x3, x4, x5, x6, x7, x8, x9, x10, x11].getD k 0 % 65521) bs.length % 65521) := Lib.hid rfl
  have hbd := Lib.hid (fun j => psum_bd (f := fun k => bs.getD k 0 * [x0, x1, x2, x3, x4, x5, x6, x7, x8, x9, x10, x11].getD k 0 % 65521) (fun j => ⟨Int.emod_nonneg _ (by decide), Int.emod_lt_of_pos _ (by decide)⟩) j)
  have hbb : Hid (∀ k, k < bs.length → 0 ≤ bs.getD k 0 ∧ bs.getD k 0 < 65521) := Lib.hid (fun k hk => by rw [List.getD_eq_getElem?_getD, List.getElem?_eq_getElem hk]; exact hb _ (List.getElem_mem hk))
  have hxx : Hid (∀ k, k < 12 → 0 ≤ [x0, x1, x2, x3, x4, x5, x6, x7, x8, x9, x10, x11].getD k 0 ∧ [x0, x1, x2, x3, x4, x5, x6, x7, x8, x9, x10, x11].getD k 0 < 65521) := Lib.hid (fun k hk => by rw [List.getD_eq_getElem?_getD, List.getElem?_eq_getElem (by simpa using hk)]; exact hx _ (List.getElem_mem _))
  replace hw := Lib.hid hw
  replace h3 := Lib.hid h3
  clear hb hx ra hg hg2
  generalize [x0, x1, x2, x3, x4, x5, x6, x7, x8, x9, x10, x11] = win at *
  go_enter Tryd.func144, Tryd.ntmps144
  go_wp2
  generalize w.alloc (.cells #[.int .i64 x0, .int .i64 x1, .int .i64 x2, .int .i64 x3, .int .i64 x4, .int .i64 x5, .int .i64 x6, .int .i64 x7, .int .i64 x8, .int .i64 x9, .int .i64 x10, .int .i64 x11] 114) = W at *
  go_loop [4, 5, 6, 10] (fun s _ _ i => ∃ q : Nat, q ≤ bs.length ∧ i = .int .i64 q ∧ s = .int .i64 (psum (fun k => bs.getD k 0 * win.getD k 0 % 65521) q)) (fun _ _ _ i => bs.length - (intOf i).toNat)
  case atStart => exact ⟨0, Nat.zero_le _, rfl, rfl⟩
  case round =>
    obtain ⟨q, hq, rfl, rfl⟩ := hrel
    have ⟨p1, p2⟩ := hbd.out q
    by_cases hlt : q < bs.length
    · obtain ⟨b0, off, rfl, hc⟩ := h3.out q hlt
      have hcw := hw.out q (by omega)
      have ⟨n1, n2⟩ := hbb.out q hlt
      have ⟨v1, v2⟩ := hxx.out q (by omega)
      have hs : Hid (psum (fun k => bs.getD k 0 * win.getD k 0 % 65521) (q + 1) = psum (fun k => bs.getD k 0 * win.getD k 0 % 65521) q + bs.getD q 0 * win.getD q 0 % 65521) := Lib.hid rfl
      generalize psum (fun k => bs.getD k 0 * win.getD k 0 % 65521) q = S at p1 p2 hs ⊢
      generalize bs.getD q 0 = x at n1 n2 hc hs
      generalize win.getD q 0 = y at v1 v2 hcw hs
      have ⟨m1, m2⟩ := mul_bd n1 n2 v1 v2
      have q1 : (q : Int) < (bs.length : Int) := by omega
      have q0 : (0 : Int) ≤ (q : Int) := by omega
      have q12 : (q : Int) < 12 := by omega
      go_wp2
      go_round
      case rel => exact ⟨q + 1, by omega, by go_num, congrArg (Value.int .i64) hs.out.symm⟩
      case measure => simp [intOf]; omega
    · obtain rfl : q = bs.length := by omega
      generalize psum (fun k => bs.getD k 0 * win.getD k 0 % 65521) bs.length = S at p1 p2 hN ⊢
      go_wp2
      go_ret
      exact ⟨by rw [hN.out]; rfl, hbx⟩
end Go.Proofs.YtfljkcmijnhgkaaDoor
