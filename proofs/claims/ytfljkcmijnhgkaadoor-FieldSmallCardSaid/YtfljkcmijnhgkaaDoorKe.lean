/- solve: its contract. -/
import Derived.Test.YtfljkcmijnhgkaaDoorKd
namespace Go.Proofs.YtfljkcmijnhgkaaDoor
open Go.RowKit
set_option linter.unusedSimpArgs false
set_option maxRecDepth 100000 in
set_option maxHeartbeats 1600000 in
theorem solve_any (rs : List (List Int)) (cols : List Nat) (n m sb cb base : Nat) (v : Value) (t : Bool) (ccur : Array Value) (cc : Nat) (vs : List Value) (w : World)
    (h : OwnMv w base v rs vs) (hok : okM rs n m) (hn : n ≤ 1000) (hm : m ≤ 1000) (hcn : cols.length ≤ 1000) (hcols : ∀ k ∈ cols, k < m)
    (hs : w.heap[sb]? = some (.cells #[v, .bool t] 123 (0, 0))) (hsb : base ≤ sb) (hcb : w.heap[cb]? = some (.cells ccur 3 (0, 0))) (hcv : ∀ u ∈ vs, u.ownBlock ≠ some cb)
    (hc : ∀ (j k : Nat), cols[j]? = some k → w.cell? ⟨cb, j, none⟩ = some (.int .i64 k)) :
    Calls Tryd.prog 126 #[.pointer (some ⟨sb, 0, none⟩), .slice (some ⟨cb, 0, none⟩) cols.length cc] w fun e w' =>
      ∃ lv, e = .returned (.tuple #[lv, .int .i64 (solveS rs cols t).det]) ∧ SolveInv w w' base sb cb n m v lv (solveS rs cols t) := by
  obtain ⟨ip, hip, hp0, hp1, hp2⟩ := info_parts infoP
  have hbw : base ≤ w.heap.size := by have := lt_of_block hs; omega
  have hinit : SolveInv w w base sb cb n m v (.slice none 0 0) ⟨rs, [], 1, t⟩ := ⟨hok, Nat.zero_le _, ⟨by show (0:Int) ≤ 1; decide, by show (1:Int) < 65521; decide⟩, ⟨vs, h, hcv⟩, hs, World.ownsRow_nil _ _ _ _, rfl, Below.refl _ _⟩
  replace hinit := Lib.hid hinit
  replace hc := Lib.hid hc
  replace hcols := Lib.hid hcols
  replace hcb := Lib.hid hcb
  clear h hok hs hcv
  go_enter Tryd.func126, Tryd.ntmps126
  go_wp2
  go_step3
  go_wp2
  go_step3
  go_wp2
  go_loopg [6, 7, 14] (cols.length) (fun gk l d i wr => ∃ (q : Nat) (s : Sys), q ≤ cols.length ∧ cols.length - q ≤ gk ∧ i = .int .i64 q ∧ Hid (s = (cols.take q).foldl stepS ⟨rs, [], 1, t⟩) ∧ d = .int .i64 s.det ∧ Hid (SolveInv w wr base sb cb n m v l s))
  case atStart => exact ⟨0, _, Nat.zero_le _, Nat.le_refl _, rfl, Lib.hid rfl, rfl, hinit⟩
  case round =>
    obtain ⟨q, s, hq, hgk, rfl, hst, rfl, hI⟩ := hrel
    by_cases hlt : q < cols.length
    · obtain ⟨k, hk⟩ : ∃ k, cols[q]? = some k := ⟨_, List.getElem?_eq_getElem hlt⟩
      have hkm := hcols.out k (List.mem_of_getElem? hk)
      have hkc : wr.cell? ⟨cb, q, none⟩ = some (.int .i64 k) := (World.cell?_of_block (w := w) hI.out.cols).trans (hc.out q k hk)
      have hsys : wr.cell? ⟨sb, 0, none⟩ = some v := by simp [World.cell?, hI.out.sys]
      obtain ⟨A, c, rfl⟩ := own_form hI.out.piv
      obtain ⟨vs', hO, hOc⟩ := hI.out.mem
      obtain ⟨G, C, rfl⟩ := own_form hO.outer
      rw [hI.out.ok.1] at *
      have hfew := hI.out.few
      generalize hL : s.piv.length = L at hfew hI ⊢
      replace hL := Lib.hid hL
      have hdet := hI.out.det
      replace hk := Lib.hid hk
      replace hO := Lib.hid hO
      replace hOc := Lib.hid hOc
      have q1 : (q : Int) < (cols.length : Int) := by omega
      have q0 : (0 : Int) ≤ (q : Int) := by omega
      go_wp2
      obtain ⟨wo, rfl⟩ : ∃ wo : World, wo = wr := ⟨_, rfl⟩
      obtain ⟨gO, rfl⟩ : ∃ gO : Nat, gO = gk := ⟨_, rfl⟩
      replace hI := Lib.hid hI
      clear hkc
      go_loopg [6, 7, 10] n (fun gj ll dd ii w2 => ll = .slice A L c ∧ dd = .int .i64 s.det ∧ ∃ i : Nat, L ≤ i ∧ i ≤ n ∧ n - i ≤ gj ∧ ii = .int .i64 i ∧ Hid (∀ j, L ≤ j → j < i → gM s.rows j k = 0) ∧ w2 = wo)
      case atStart => exact ⟨rfl, rfl, _, Nat.le_refl _, hfew, by omega, rfl, Lib.hid (fun j h1 h2 => by omega), rfl⟩
      case round =>
        obtain ⟨rfl, rfl, i, hLi, hin, hgj, rfl, hz, rfl⟩ := hrel
        by_cases hi : i < n
        · obtain ⟨u, hu⟩ : ∃ u, vs'[i]? = some u := ⟨_, List.getElem?_eq_getElem (by rw [hO.out.len, hI.out.out.ok.1]; exact hi)⟩
          have hr : s.rows[i]? = some (s.rows.getD i []) := by rw [List.getD_eq_getElem?_getD, List.getElem?_eq_getElem (by rw [hI.out.out.ok.1]; exact hi)]; rfl
          obtain ⟨g', c', e, -, -, hcg, hfg⟩ := hO.out.at_ hr hu
          simp only [Value.slice.injEq] at e
          obtain ⟨rfl, -, -⟩ := e
          obtain ⟨g2, c2, rfl, -, -, hcc, -⟩ := hO.out.num hr hu (k := k) (by rw [hI.out.out.ok.row hi]; exact hkm)
          rw [hI.out.out.ok.row hi] at hu hcg
          change wr.cell? _ = some (.int .i64 (gM s.rows i k)) at hcc
          replace hu := Lib.hid hu
          replace hr := Lib.hid hr
          have i1 : (i : Int) < (n : Int) := by omega
          have i0 : (0 : Int) ≤ (i : Int) := by omega
          have k1 : (k : Int) < (m : Int) := by omega
          have k0 : (0 : Int) ≤ (k : Int) := by omega
          by_cases hx : gM s.rows i k = 0
          · rw [hx] at hcc
            replace hx := Lib.hid hx
            go_wp2
            go_roundg (gk - 1)
            case measure => omega
            case rel => exact ⟨rfl, rfl, i + 1, by omega, by omega, by omega, by go_num, Lib.hid (fun j h1 h2 => by
              by_cases e : j = i
              · subst e; exact hx.out
              · exact hz.out j h1 (by omega)), rfl⟩
          · have hx' : (gM s.rows i k == 0) = false := by rw [beq_eq_false_iff_ne]; exact hx
            have hfp : Hid (stepS s k = pivS s k i) := Lib.hid (by rw [stepS, hI.out.out.ok.1, hL.out, findP_some hLi (by omega) hz.out hx])
            replace hx := Lib.hid hx
            by_cases hiL : i = L
            · subst hiL
              have hxb := hI.out.out.ok.num i k
              have hb1 : Below wr.heap.size wr (wr.alloc (.cells #[.int .i64 i, .int .i64 k] 132)) := (Below.refl _ _).alloc (Nat.le_refl _) _
              have p0 : (wr.alloc (.cells #[.int .i64 i, .int .i64 k] 132)).cell? ⟨wr.heap.size, 0, none⟩ = some (.int .i64 i) := by simp only [World.cell?, heap_alloc_new]; rfl
              have p1 : (wr.alloc (.cells #[.int .i64 i, .int .i64 k] 132)).cell? ⟨wr.heap.size, 1, none⟩ = some (.int .i64 k) := by simp only [World.cell?, heap_alloc_new]; rfl
              have s0 := (hb1.cell (p := ⟨sb, 0, none⟩) (World.block_lt_of_cell? wr _ hsys)).trans hsys
              have r0 := (hb1.cell (p := ⟨g', i, none⟩) (World.block_lt_of_cell? wr _ hcg)).trans hcg
              have x0 := (hb1.cell (p := ⟨g2, k, none⟩) (World.block_lt_of_cell? wr _ hcc)).trans hcc
              have hO1 := Lib.hid (hO.out.kept hb1)
              have hs1 := Lib.hid ((hb1.block sb (lt_of_block hI.out.out.sys)).trans hI.out.out.sys)
              have hpv := own_below hI.out.out.piv hb1
              rw [hL.out] at hpv
              replace hpv := Lib.hid hpv
              have hc1 := Lib.hid ((hb1.block cb (lt_of_block (hI.out.out.cols.trans hcb.out))).trans hI.out.out.cols)
              have hB1 := Lib.hid (hI.out.out.below.trans (hb1.mono (Nat.le_trans hbw hI.out.out.below.size)))
              have ⟨m1, m2⟩ := mul_bd hdet.1 hdet.2 hxb.1 hxb.2
              have e1 : IntKind.i64.wrap (s.det * gM s.rows i k) = s.det * gM s.rows i k := IntWalk.i64_in _ ⟨by omega, by omega⟩
              have e2 : (s.det * gM s.rows i k).tmod 65521 = s.det * gM s.rows i k % 65521 := Int.tmod_eq_emod_of_nonneg m1
              go_wp2
              generalize wr.alloc (.cells #[.int .i64 i, .int .i64 k] 132) = W at p0 p1 s0 r0 x0 hO1 hs1 hpv hc1 hB1 ⊢
              go_still_tail 14, (by kernel_rfl)
              change wpList _ _ _ _ _ W.drew
              clear e1 e2
              have hbx : Hid (∀ u ∈ vs', u.ownBlock ≠ some wr.heap.size) := Lib.hid (fun u hu e => by have := (hO.out.ge u hu _ e).2; omega)
              have hdo := Lib.hid (own_ne hO1.out.outer hpv.out (by decide))
              have hdr : Hid (∀ u ∈ vs', u.ownBlock = none ∨ u.ownBlock ≠ (Value.slice A i c).ownBlock) := Lib.hid (fun u hu => by
                obtain ⟨j, hj, rfl⟩ := List.getElem_of_mem hu
                have hr := hO1.out.rows j _ _ (List.getElem?_eq_getElem (by have := hO1.out.len; omega)) (List.getElem?_eq_getElem hj)
                exact own_ne hr hpv.out (by decide))
              have hsv := Lib.hid (sys_ne hO1.out hs1.out)
              go_wp2_with fail
              refine (clear_any s.rows n m i k sb base _ vs' s.turned W.drew (hO1.out.kept (Below.refl _ _).drew) hI.out.out.ok hn hm hi hkm hs1.out).mono ?_
              rintro e W2 ⟨rfl, hO2, hK2⟩
              have p0' := hK2.cell p0 hbx.out
              have p1' := hK2.cell p1 hbx.out
              replace hO2 := Lib.hid hO2
              replace hK2 := Lib.hid hK2
              have hpw := own_of_block hpv.out (fun g e => hK2.out.block g (hpv.out.lt g e).2 (fun u hu e2 => by
                rcases hdr.out u hu with h | h
                · rw [h] at e2; cases e2
                · exact h (e2.trans e.symm)))
              have hbs : base ≤ W2.heap.size := Nat.le_trans hbw (Nat.le_trans hB1.out.size hK2.out.size)
              go_wp2_with (at_builtin; (refine wpList_append_lies _ rfl _ _ 124 rfl base 132 ip _ 2 16 Tryd.underlying124 hip hp0 hp1 hp2 rfl (by omega) (.slice A i c) i (pivCells s.piv) rfl (hpw.alloc _) ⟨W2.heap.size, 0, none⟩ 1 1 [.int .i64 i, .int .i64 k] rfl rfl (World.news_of_block (cs := #[.int .i64 i, .int .i64 k]) (t := 132) (fr := (0, 0)) (heap_alloc_new W2 _)) (by simp [Value.oneCell']) (by omega) (by unfold maxLen; omega) (by omega) (by simp; omega) (W2.heap.size + 1) (by simp) ?_); intro gg cap w3 hown3 hgrow hat hlt3)
              have hpiv := hfp.out
              have hfin := solve_fin (w := w) (k := k) (i := i) hL.out hI.out.out.ok (Nat.le_refl _) hi (by rw [swap_self]; exact hO2.out) hOc.out hsv.out (by rw [if_pos rfl]; exact hs1.out) hpv.out hdo.out hdr.out hc1.out hcb.out hB1.out hbw (KeptBut.of_below (Below.refl _ _).drew |>.trans hK2.out) hgrow hown3
              rw [← hpiv] at hfin
              replace hfin := Lib.hid hfin
              have hdt : Hid ((stepS s k).det = s.det * gM s.rows i k % 65521) := Lib.hid (by rw [hpiv, pivS, hL.out, swap_self])
              clear hpiv hpw hown3 hgrow hat hlt3
              go_wp2
              go_roundg (gO - 1)
              case measure => omega
              case rel => exact ⟨q + 1, stepS s k, by omega, by omega, by go_num, Lib.hid (by rw [List.take_add_one, hk.out, List.foldl_append, ← hst.out]; rfl), by rw [hdt.out], hfin⟩
            · have hLi' : L < i := by omega
              have hnei : ((i : Int) != (L : Int)) = true := by rw [bne_iff_ne]; omega
              obtain ⟨uL, huL⟩ : ∃ u, vs'[L]? = some u := ⟨_, List.getElem?_eq_getElem (by rw [hO.out.len, hI.out.out.ok.1]; omega)⟩
              have hrL : s.rows[L]? = some (s.rows.getD L []) := by rw [List.getD_eq_getElem?_getD, List.getElem?_eq_getElem (by rw [hI.out.out.ok.1]; omega)]; rfl
              obtain ⟨g4, c4, e, -, -, hcL, hfL⟩ := hO.out.at_ hrL huL
              simp only [Value.slice.injEq, Option.some.injEq, Addr.mk.injEq, and_true] at e
              obtain ⟨rfl, -, -⟩ := e
              obtain ⟨g3, c3, rfl, -, -, hc3, -⟩ := hO.out.num hrL huL (k := k) (by rw [hI.out.out.ok.row (by omega)]; exact hkm)
              rw [hI.out.out.ok.row (show L < n by omega)] at huL hcL
              replace huL := Lib.hid huL
              replace hrL := Lib.hid hrL
              have hsf : wr.frozen? ⟨sb, 1, none⟩ = false := by simp [World.frozen?, hI.out.out.sys]
              have hst1 : wr.cell? ⟨sb, 1, none⟩ = some (.bool s.turned) := by simp [World.cell?, hI.out.out.sys]
              have hb1 : Below wr.heap.size wr (wr.alloc (.cells #[.int .i64 L, .int .i64 k] 132)) := (Below.refl _ _).alloc (Nat.le_refl _) _
              have p0 : (wr.alloc (.cells #[.int .i64 L, .int .i64 k] 132)).cell? ⟨wr.heap.size, 0, none⟩ = some (.int .i64 L) := by simp only [World.cell?, heap_alloc_new]; rfl
              have p1 : (wr.alloc (.cells #[.int .i64 L, .int .i64 k] 132)).cell? ⟨wr.heap.size, 1, none⟩ = some (.int .i64 k) := by simp only [World.cell?, heap_alloc_new]; rfl
              have s0 := (hb1.cell (p := ⟨sb, 0, none⟩) (World.block_lt_of_cell? wr _ hsys)).trans hsys
              have s1 := (hb1.cell (p := ⟨sb, 1, none⟩) (World.block_lt_of_cell? wr _ hst1)).trans hst1
              have sf := (hb1.frozen (p := ⟨sb, 1, none⟩) (World.block_lt_of_cell? wr _ hst1)).trans hsf
              have r0 := (hb1.cell (p := ⟨g', i, none⟩) (World.block_lt_of_cell? wr _ hcg)).trans hcg
              have rf := (hb1.frozen (p := ⟨g', i, none⟩) (World.block_lt_of_cell? wr _ hcg)).trans hfg
              have t0 := (hb1.cell (p := ⟨g', L, none⟩) (World.block_lt_of_cell? wr _ hcL)).trans hcL
              have tf := (hb1.frozen (p := ⟨g', L, none⟩) (World.block_lt_of_cell? wr _ hcL)).trans hfL
              have hO1 := Lib.hid (hO.out.kept hb1)
              have hs1 := Lib.hid ((hb1.block sb (lt_of_block hI.out.out.sys)).trans hI.out.out.sys)
              have hpv := own_below hI.out.out.piv hb1
              rw [hL.out] at hpv
              replace hpv := Lib.hid hpv
              have hc1 := Lib.hid ((hb1.block cb (lt_of_block (hI.out.out.cols.trans hcb.out))).trans hI.out.out.cols)
              have hB1 := Lib.hid (hI.out.out.below.trans (hb1.mono (Nat.le_trans hbw hI.out.out.below.size)))
              have L1 : (L : Int) < (n : Int) := by omega
              have L0 : (0 : Int) ≤ (L : Int) := by omega
              have sbg : sb ≠ g' := fun e => by
                have h1 := hI.out.out.sys
                rcases hO.out.outer.2 with ⟨e2, _⟩ | ⟨g5, cap, cur, e2, _, hh, _⟩
                · cases e2
                · simp only [Value.slice.injEq, Option.some.injEq, Addr.mk.injEq, and_true] at e2
                  obtain ⟨rfl, -, -⟩ := e2
                  rw [← e, h1] at hh
                  injection hh with hh
                  injection hh with _ ht
                  exact absurd ht (by decide)
              have hgb : base ≤ g' := by
                rcases hO.out.outer.2 with ⟨e2, _⟩ | ⟨g5, cap, cur, e2, hb, hh, _⟩
                · cases e2
                · simp only [Value.slice.injEq, Option.some.injEq, Addr.mk.injEq, and_true] at e2
                  obtain ⟨rfl, -, -⟩ := e2
                  exact hb
              have hneG : Hid ((Value.slice A L c).ownBlock ≠ some g') := Lib.hid (fun e2 => by
                have h9 := hI.out.out.piv
                rw [hL.out] at h9
                rcases own_ne h9 hO.out.outer (by decide) with h | h
                · rw [h] at e2; cases e2
                · exact h e2)
              have hcbg : Hid (cb ≠ g') := Lib.hid (fun e => by
                have h1 := hI.out.out.cols.trans hcb.out
                exact own_type hO.out.outer h1 (by decide) (by rw [e]; rfl))
              have hcbs : Hid (cb ≠ sb) := Lib.hid (fun e => by
                have h1 := hI.out.out.cols.trans hcb.out
                have h2 := hI.out.out.sys
                rw [e, h2] at h1
                injection h1 with h1
                injection h1 with _ ht
                exact absurd ht (by decide))
              have bxg : wr.heap.size ≠ g' := fun e => by have := World.block_lt_of_cell? wr _ hcg; simp at this; omega
              have bxs : wr.heap.size ≠ sb := fun e => by have := World.block_lt_of_cell? wr _ hsys; simp at this; omega
              go_wp2
              generalize wr.alloc (.cells #[.int .i64 L, .int .i64 k] 132) = W at p0 p1 s0 s1 sf r0 rf t0 tf hO1 hs1 hpv hc1 hB1 ⊢
              clear hcg hfg hcL hfL hsys hst1 hsf hcc
              refine D_begin (fun w' => w'.cell? ⟨sb, 0, none⟩ = some (.slice (some ⟨g', 0, none⟩) n C) ∧ w'.cell? ⟨wr.heap.size, 0, none⟩ = some (.int .i64 L)) (fun w' => w'.cell? ⟨g', i, none⟩ = some (.slice (some ⟨g2, 0, none⟩) m c2) ∧ w'.cell? ⟨g', L, none⟩ = some (.slice (some ⟨g3, 0, none⟩) m c3)) 27 (by kernel_rfl) ?_
              change wpAnyD _ _ _ _ _ _ _ _ _ _ W.drew
              have HS : W.drew.cell? ⟨sb, 0, none⟩ = some (.slice (some ⟨g', 0, none⟩) n C) ∧ W.drew.cell? ⟨wr.heap.size, 0, none⟩ = some (.int .i64 L) := ⟨s0, p0⟩
              have HT : W.drew.cell? ⟨g', i, none⟩ = some (.slice (some ⟨g2, 0, none⟩) m c2) ∧ W.drew.cell? ⟨g', L, none⟩ = some (.slice (some ⟨g3, 0, none⟩) m c3) := ⟨r0, t0⟩
              simp only [List.size_toArray, List.length_cons, List.length_nil, Nat.reduceAdd, Array.replicate_succ, Array.replicate_zero, List.push_toArray, List.append_toArray, List.nil_append, List.cons_append]
              refine D_take (i := 0) (v := ?_) rfl (by kernel_rfl) (by kernel_rfl) (by kernel_rfl) (by kernel_rfl) (fun _ _ _ h => h) (Or.inl ⟨by rfl, ?_⟩) HS (fun _ => HT) ?_
              rotate_left; · intro w1 hw1; obtain ⟨hw1, hw2⟩ := hw1; go_simp; try with_reducible rfl
              try simp only [Act.put, List.setIfInBounds_toArray, List.set_cons_zero, List.set_cons_succ]
              refine D_take (i := 1) (v := ?_) rfl (by kernel_rfl) (by kernel_rfl) (by kernel_rfl) (by kernel_rfl) (fun _ _ _ h => h) (Or.inl ⟨by rfl, ?_⟩) HS (fun _ => HT) ?_
              rotate_left; · intro w1 hw1; obtain ⟨hw1, hw2⟩ := hw1; go_simp; try with_reducible rfl
              try simp only [Act.put, List.setIfInBounds_toArray, List.set_cons_zero, List.set_cons_succ]
              refine D_take (i := 2) (v := ?_) rfl (by kernel_rfl) (by kernel_rfl) (by kernel_rfl) (by kernel_rfl) (fun _ _ _ h => h) (Or.inl ⟨by rfl, ?_⟩) HS (fun _ => HT) ?_
              rotate_left; · intro w1 hw1; obtain ⟨hw1, hw2⟩ := hw1; go_simp; try with_reducible rfl
              try simp only [Act.put, List.setIfInBounds_toArray, List.set_cons_zero, List.set_cons_succ]
              refine D_take (i := 3) (v := ?_) rfl (by kernel_rfl) (by kernel_rfl) (by kernel_rfl) (by kernel_rfl) (fun _ _ _ h => h) (Or.inl ⟨by rfl, ?_⟩) HS (fun _ => HT) ?_
              rotate_left; · intro w1 hw1; obtain ⟨hw1, hw2⟩ := hw1; go_simp; try with_reducible rfl
              try simp only [Act.put, List.setIfInBounds_toArray, List.set_cons_zero, List.set_cons_succ]
              refine D_take (i := 4) (v := ?_) rfl (by kernel_rfl) (by kernel_rfl) (by kernel_rfl) (by kernel_rfl) (fun _ _ _ h => h) (Or.inl ⟨by rfl, ?_⟩) HS (fun _ => HT) ?_
              rotate_left; · intro w1 hw1; obtain ⟨hw1, hw2⟩ := hw1; go_simp; try with_reducible rfl
              try simp only [Act.put, List.setIfInBounds_toArray, List.set_cons_zero, List.set_cons_succ]
              refine D_take (i := 5) (v := ?_) rfl (by kernel_rfl) (by kernel_rfl) (by kernel_rfl) (by kernel_rfl) (fun _ _ _ h => h) (Or.inl ⟨by rfl, ?_⟩) HS (fun _ => HT) ?_
              rotate_left; · intro w1 hw1; obtain ⟨hw1, hw2⟩ := hw1; go_simp; try with_reducible rfl
              try simp only [Act.put, List.setIfInBounds_toArray, List.set_cons_zero, List.set_cons_succ]
              refine D_take (i := 6) (v := ?_) rfl (by kernel_rfl) (by kernel_rfl) (by kernel_rfl) (by kernel_rfl) (fun _ _ _ h => h) (Or.inl ⟨by rfl, ?_⟩) HS (fun _ => HT) ?_
              rotate_left; · intro w1 hw1; obtain ⟨hw1, hw2⟩ := hw1; go_simp; try with_reducible rfl
              try simp only [Act.put, List.setIfInBounds_toArray, List.set_cons_zero, List.set_cons_succ]
              refine D_take (i := 7) (v := ?_) rfl (by kernel_rfl) (by kernel_rfl) (by kernel_rfl) (by kernel_rfl) (fun _ _ _ h => h) (Or.inl ⟨by rfl, ?_⟩) HS (fun _ => HT) ?_
              rotate_left; · intro w1 hw1; obtain ⟨hw1, hw2⟩ := hw1; go_simp; try with_reducible rfl
              try simp only [Act.put, List.setIfInBounds_toArray, List.set_cons_zero, List.set_cons_succ]
              refine D_take (i := 8) (v := ?_) rfl (by kernel_rfl) (by kernel_rfl) (by kernel_rfl) (by kernel_rfl) (fun _ _ _ h => h) (Or.inl ⟨by rfl, ?_⟩) HS (fun _ => HT) ?_
              rotate_left; · intro w1 hw1; obtain ⟨hw1, hw2⟩ := hw1; go_simp; try with_reducible rfl
              try simp only [Act.put, List.setIfInBounds_toArray, List.set_cons_zero, List.set_cons_succ]
              refine D_take (i := 9) (v := ?_) rfl (by kernel_rfl) (by kernel_rfl) (by kernel_rfl) (by kernel_rfl) (fun _ _ _ h => h) (Or.inl ⟨by rfl, ?_⟩) HS (fun _ => HT) ?_
              rotate_left; · intro w1 hw1; obtain ⟨hw1, hw2⟩ := hw1; go_simp; try with_reducible rfl
              try simp only [Act.put, List.setIfInBounds_toArray, List.set_cons_zero, List.set_cons_succ]
              refine D_take (i := 10) (v := ?_) rfl (by kernel_rfl) (by kernel_rfl) (by kernel_rfl) (by kernel_rfl) (fun _ _ _ h => h) (Or.inl ⟨by rfl, ?_⟩) HS (fun _ => HT) ?_
              rotate_left; · intro w1 hw1; obtain ⟨hw1, hw2⟩ := hw1; go_simp; try with_reducible rfl
              try simp only [Act.put, List.setIfInBounds_toArray, List.set_cons_zero, List.set_cons_succ]
              refine D_take (i := 11) (v := ?_) rfl (by kernel_rfl) (by kernel_rfl) (by kernel_rfl) (by kernel_rfl) (fun _ _ _ h => h) (Or.inl ⟨by rfl, ?_⟩) HS (fun _ => HT) ?_
              rotate_left; · intro w1 hw1; obtain ⟨hw1, hw2⟩ := hw1; go_simp; try with_reducible rfl
              try simp only [Act.put, List.setIfInBounds_toArray, List.set_cons_zero, List.set_cons_succ]
              refine D_take (i := 12) (v := ?_) rfl (by kernel_rfl) (by kernel_rfl) (by kernel_rfl) (by kernel_rfl) (fun _ _ _ h => h) (Or.inl ⟨by rfl, ?_⟩) HS (fun _ => HT) ?_
              rotate_left; · intro w1 hw1; obtain ⟨hw1, hw2⟩ := hw1; go_simp; try with_reducible rfl
              try simp only [Act.put, List.setIfInBounds_toArray, List.set_cons_zero, List.set_cons_succ]
              refine D_take (i := 13) (v := ?_) rfl (by kernel_rfl) (by kernel_rfl) (by kernel_rfl) (by kernel_rfl) (fun _ _ _ h => h) (Or.inl ⟨by rfl, ?_⟩) HS (fun _ => HT) ?_
              rotate_left; · intro w1 hw1; obtain ⟨hw1, hw2⟩ := hw1; go_simp; try with_reducible rfl
              try simp only [Act.put, List.setIfInBounds_toArray, List.set_cons_zero, List.set_cons_succ]
              refine D_take (i := 14) (v := ?_) rfl (by kernel_rfl) (by kernel_rfl) (by kernel_rfl) (by kernel_rfl) (fun _ _ _ h => h) (Or.inl ⟨by rfl, ?_⟩) HS (fun _ => HT) ?_
              rotate_left; · intro w1 hw1; obtain ⟨hw1, hw2⟩ := hw1; go_simp; try with_reducible rfl
              try simp only [Act.put, List.setIfInBounds_toArray, List.set_cons_zero, List.set_cons_succ]
              refine D_take (i := 15) (v := ?_) rfl (by kernel_rfl) (by kernel_rfl) (by kernel_rfl) (by kernel_rfl) (fun _ _ _ h => h) (Or.inl ⟨by rfl, ?_⟩) HS (fun _ => HT) ?_
              rotate_left; · intro w1 hw1; obtain ⟨hw1, hw2⟩ := hw1; go_simp; try with_reducible rfl
              try simp only [Act.put, List.setIfInBounds_toArray, List.set_cons_zero, List.set_cons_succ]
              refine D_take (i := 16) (v := ?_) rfl (by kernel_rfl) (by kernel_rfl) (by kernel_rfl) (by kernel_rfl) (fun _ _ _ h => h) (Or.inl ⟨by rfl, ?_⟩) HS (fun _ => HT) ?_
              rotate_left; · intro w1 hw1; obtain ⟨hw1, hw2⟩ := hw1; go_simp; try with_reducible rfl
              try simp only [Act.put, List.setIfInBounds_toArray, List.set_cons_zero, List.set_cons_succ]
              refine D_take (i := 17) (v := ?_) rfl (by kernel_rfl) (by kernel_rfl) (by kernel_rfl) (by kernel_rfl) (fun _ _ _ h => h) (Or.inl ⟨by rfl, ?_⟩) HS (fun _ => HT) ?_
              rotate_left; · intro w1 hw1; obtain ⟨hw1, hw2⟩ := hw1; go_simp; try with_reducible rfl
              try simp only [Act.put, List.setIfInBounds_toArray, List.set_cons_zero, List.set_cons_succ]
              refine D_take (i := 19) (v := ?_) rfl (by kernel_rfl) (by kernel_rfl) (by kernel_rfl) (by kernel_rfl) (fun _ _ _ h => h) (Or.inl ⟨by rfl, ?_⟩) HS (fun _ => HT) ?_
              rotate_left; · intro w1 hw1; obtain ⟨hw1, hw2⟩ := hw1; go_simp; try with_reducible rfl
              try simp only [Act.put, List.setIfInBounds_toArray, List.set_cons_zero, List.set_cons_succ]
              refine D_take (i := 20) (v := ?_) rfl (by kernel_rfl) (by kernel_rfl) (by kernel_rfl) (by kernel_rfl) (fun _ _ _ h => h) (Or.inl ⟨by rfl, ?_⟩) HS (fun _ => HT) ?_
              rotate_left; · intro w1 hw1; obtain ⟨hw1, hw2⟩ := hw1; go_simp; try with_reducible rfl
              try simp only [Act.put, List.setIfInBounds_toArray, List.set_cons_zero, List.set_cons_succ]
              refine D_take (i := 21) (v := ?_) rfl (by kernel_rfl) (by kernel_rfl) (by kernel_rfl) (by kernel_rfl) (fun _ _ _ h => h) (Or.inl ⟨by rfl, ?_⟩) HS (fun _ => HT) ?_
              rotate_left; · intro w1 hw1; obtain ⟨hw1, hw2⟩ := hw1; go_simp; try with_reducible rfl
              try simp only [Act.put, List.setIfInBounds_toArray, List.set_cons_zero, List.set_cons_succ]
              refine D_take (i := 22) (v := ?_) rfl (by kernel_rfl) (by kernel_rfl) (by kernel_rfl) (by kernel_rfl) (fun _ _ _ h => h) (Or.inl ⟨by rfl, ?_⟩) HS (fun _ => HT) ?_
              rotate_left; · intro w1 hw1; obtain ⟨hw1, hw2⟩ := hw1; go_simp; try with_reducible rfl
              try simp only [Act.put, List.setIfInBounds_toArray, List.set_cons_zero, List.set_cons_succ]
              refine D_take (i := 23) (v := ?_) rfl (by kernel_rfl) (by kernel_rfl) (by kernel_rfl) (by kernel_rfl) (fun _ _ _ h => h) (Or.inl ⟨by rfl, ?_⟩) HS (fun _ => HT) ?_
              rotate_left; · intro w1 hw1; obtain ⟨hw1, hw2⟩ := hw1; go_simp; try with_reducible rfl
              try simp only [Act.put, List.setIfInBounds_toArray, List.set_cons_zero, List.set_cons_succ]
              refine D_take (i := 24) (v := ?_) rfl (by kernel_rfl) (by kernel_rfl) (by kernel_rfl) (by kernel_rfl) (fun _ _ _ h => h) (Or.inl ⟨by rfl, ?_⟩) HS (fun _ => HT) ?_
              rotate_left; · intro w1 hw1; obtain ⟨hw1, hw2⟩ := hw1; go_simp; try with_reducible rfl
              try simp only [Act.put, List.setIfInBounds_toArray, List.set_cons_zero, List.set_cons_succ]
              refine D_load (i := 18) (v := ?_) rfl (by kernel_rfl) (by kernel_rfl) (by kernel_rfl) (by kernel_rfl) (by kernel_rfl) (by kernel_rfl) (fun _ _ _ h => h) (Or.inl ⟨by rfl, ?_⟩) HS HT ?_
              rotate_left; · intro w1 hw1; obtain ⟨⟨hw1, hw2⟩, hw3, hw4⟩ := hw1; go_simp; try with_reducible rfl
              try simp only [Act.put, List.setIfInBounds_toArray, List.set_cons_zero, List.set_cons_succ]
              refine D_load (i := 25) (v := ?_) rfl (by kernel_rfl) (by kernel_rfl) (by kernel_rfl) (by kernel_rfl) (by kernel_rfl) (by kernel_rfl) (fun _ _ _ h => h) (Or.inl ⟨by rfl, ?_⟩) HS HT ?_
              rotate_left; · intro w1 hw1; obtain ⟨⟨hw1, hw2⟩, hw3, hw4⟩ := hw1; go_simp; try with_reducible rfl
              try simp only [Act.put, List.setIfInBounds_toArray, List.set_cons_zero, List.set_cons_succ]
              refine D_take (i := 26) (v := ?_) rfl (by kernel_rfl) (by kernel_rfl) (by kernel_rfl) (by kernel_rfl) (fun _ _ _ h => h) (Or.inl ⟨by rfl, ?_⟩) HS (fun _ => HT) ?_
              rotate_left; · intro w1 hw1; obtain ⟨hw1, hw2⟩ := hw1; go_simp; try with_reducible rfl
              try simp only [Act.put, List.setIfInBounds_toArray, List.set_cons_zero, List.set_cons_succ]
              refine D_one (i := 27) (by kernel_rfl) rfl ?_
              intro K hK
              rw [if_pos (by rfl)]
              go_simp
              have HS2 : (W.setCell ⟨g', i, none⟩ (.slice (some ⟨g3, 0, none⟩) m c3)).drew.cell? ⟨sb, 0, none⟩ = some (.slice (some ⟨g', 0, none⟩) n C) ∧ (W.setCell ⟨g', i, none⟩ (.slice (some ⟨g3, 0, none⟩) m c3)).drew.cell? ⟨wr.heap.size, 0, none⟩ = some (.int .i64 L) :=
                ⟨(World.cell?_of_block (w := W) (a := ⟨sb, 0, none⟩) (Below.heap_setCell _ _ _ _ sbg)).trans s0, (World.cell?_of_block (w := W) (a := ⟨wr.heap.size, 0, none⟩) (Below.heap_setCell _ _ _ _ bxg)).trans p0⟩
              refine hK _ _ HS2 (fun h => absurd rfl h) ?_
              try simp only [List.setIfInBounds_toArray, List.set_cons_zero, List.set_cons_succ]
              clear hK K
              refine D_take (i := 28) (v := ?_) rfl (by kernel_rfl) (by kernel_rfl) (by kernel_rfl) (by kernel_rfl) (fun _ _ _ h => h) (Or.inl ⟨by rfl, ?_⟩) HS2 (fun h => absurd h (by decide)) ?_
              rotate_left; · intro w1 hw1; obtain ⟨hw1, hw2⟩ := hw1; go_simp; try with_reducible rfl
              try simp only [Act.put, List.setIfInBounds_toArray, List.set_cons_zero, List.set_cons_succ]
              refine D_one (i := 29) (by kernel_rfl) rfl ?_
              intro K hK
              rw [if_pos (by rfl)]
              go_simp
              refine hK _ _ ⟨(World.cell?_of_block (w := W) (a := ⟨sb, 0, none⟩) ((Below.heap_setCell _ _ _ _ sbg).trans (Below.heap_setCell _ _ _ _ sbg))).trans s0, (World.cell?_of_block (w := W) (a := ⟨wr.heap.size, 0, none⟩) ((Below.heap_setCell _ _ _ _ bxg).trans (Below.heap_setCell _ _ _ _ bxg))).trans p0⟩ (fun _ h => absurd h (by decide)) ?_
              clear hK K
              refine D_done (by kernel_rfl) ?_ _
              clear HS HT HS2
              go_wp2_with fail
              have hboth := swap_fin (t := s.turned) hO1.out rfl hr.out hrL.out hu.out huL.out hiL hs1.out hsb sbg hgb hB1.out
              have hpX := own_of_block hpv.out (fun b e => hboth.2.2.2 b (fun e2 => hneG.out (by rw [e, e2])) (fun e2 => own_type hpv.out hs1.out (by decide) (by rw [e, e2])))
              have hcX : _ = w.heap[cb]? := (hboth.2.2.2 cb hcbg.out hcbs.out).trans hc1.out
              have hok2 : okM (swapM s.rows i L) n m := okM_swap hI.out.out.ok hi (by omega)
              have hgm : gM (swapM s.rows i L) L k = gM s.rows i k := by unfold gM; rw [swap_row (by rw [hI.out.out.ok.1]; omega)]
              have hOX := Lib.hid hboth.1
              have hsX := Lib.hid hboth.2.1
              have hBX := Lib.hid hboth.2.2.1
              have p0X := ((World.cell?_of_block (a := ⟨wr.heap.size, 0, none⟩) (hboth.2.2.2 wr.heap.size bxg bxs))).trans p0
              have p1X := ((World.cell?_of_block (a := ⟨wr.heap.size, 1, none⟩) (hboth.2.2.2 wr.heap.size bxg bxs))).trans p1
              replace hpX := Lib.hid hpX
              replace hcX := Lib.hid hcX
              have hvL : ((vs'.set i (Value.slice (some ⟨g3, 0, none⟩) m c3)).set L (Value.slice (some ⟨g2, 0, none⟩) m c2))[L]? = some (Value.slice (some ⟨g2, 0, none⟩) m c2) := List.getElem?_set_self (by have := hO.out.len; rw [hI.out.out.ok.1] at this; simp; omega)
              have hrL2 : (swapM s.rows i L)[L]? = some (s.rows.getD i []) := swap_get (by rw [hI.out.out.ok.1]; omega)
              obtain ⟨g5, c5, e, -, -, r0X, -⟩ := hOX.out.at_ hrL2 hvL
              simp only [Value.slice.injEq, Option.some.injEq, Addr.mk.injEq, and_true] at e
              obtain ⟨rfl, -, -⟩ := e
              obtain ⟨g6, c6, e, -, -, x0X, -⟩ := hOX.out.num hrL2 hvL (k := k) (by rw [hI.out.out.ok.row hi]; exact hkm)
              simp only [Value.slice.injEq, Option.some.injEq, Addr.mk.injEq, and_true] at e
              obtain ⟨rfl, -, -⟩ := e
              change World.cell? _ _ = some (.int .i64 (gM s.rows i k)) at x0X
              have s0X : (((W.setCell ⟨g', i, none⟩ (.slice (some ⟨g3, 0, none⟩) m c3)).setCell ⟨g', L, none⟩ (.slice (some ⟨g2, 0, none⟩) m c2)).setCell ⟨sb, 1, none⟩ (.bool !s.turned)).drew.cell? ⟨sb, 0, none⟩ = some (.slice (some ⟨g', 0, none⟩) n C) := by simp only [World.cell?, hsX.out]; rfl
              have hcbX : Hid (∀ y ∈ ((vs'.set i (Value.slice (some ⟨g3, 0, none⟩) m c3)).set L (Value.slice (some ⟨g2, 0, none⟩) m c2)), y.ownBlock ≠ some cb) := Lib.hid (fun y hy => by
                rcases List.mem_or_eq_of_mem_set hy with hy | rfl
                · rcases List.mem_or_eq_of_mem_set hy with hy | rfl
                  · exact hOc.out y hy
                  · exact hOc.out _ (List.mem_of_getElem? huL.out)
                · exact hOc.out _ (List.mem_of_getElem? hu.out))
              have hszX : Hid (wr.heap.size < (((W.setCell ⟨g', i, none⟩ (.slice (some ⟨g3, 0, none⟩) m c3)).setCell ⟨g', L, none⟩ (.slice (some ⟨g2, 0, none⟩) m c2)).setCell ⟨sb, 1, none⟩ (.bool !s.turned)).drew.heap.size) := Lib.hid (World.block_lt_of_cell? _ _ p0X)
              have hxn : Hid (∀ y ∈ ((vs'.set i (Value.slice (some ⟨g3, 0, none⟩) m c3)).set L (Value.slice (some ⟨g2, 0, none⟩) m c2)), y.ownBlock ≠ some wr.heap.size) := Lib.hid (fun y hy e => by
                have : ∀ z ∈ vs', z.ownBlock ≠ some wr.heap.size := fun z hz e => by have := (hO.out.ge z hz _ e).2; omega
                rcases List.mem_or_eq_of_mem_set hy with hy | rfl
                · rcases List.mem_or_eq_of_mem_set hy with hy | rfl
                  · exact this y hy e
                  · exact this _ (List.mem_of_getElem? huL.out) e
                · exact this _ (List.mem_of_getElem? hu.out) e)
              clear p0 p1 s0 s1 sf r0 rf t0 tf hO1 hs1 hpv hc1 hB1 hboth hvL hrL2
              replace hok2 := Lib.hid hok2
              replace hgm := Lib.hid hgm
              have hxb := hI.out.out.ok.num i k
              have ⟨m1, m2⟩ := mul_bd hdet.1 hdet.2 hxb.1 hxb.2
              have e1 : IntKind.i64.wrap (s.det * gM s.rows i k) = s.det * gM s.rows i k := IntWalk.i64_in _ ⟨by omega, by omega⟩
              have e2 : (s.det * gM s.rows i k).tmod 65521 = s.det * gM s.rows i k % 65521 := Int.tmod_eq_emod_of_nonneg m1
              generalize ((vs'.set i (Value.slice (some ⟨g3, 0, none⟩) m c3)).set L (Value.slice (some ⟨g2, 0, none⟩) m c2)) = vX at hOX hcbX hxn
              generalize (((W.setCell ⟨g', i, none⟩ (.slice (some ⟨g3, 0, none⟩) m c3)).setCell ⟨g', L, none⟩ (.slice (some ⟨g2, 0, none⟩) m c2)).setCell ⟨sb, 1, none⟩ (.bool !s.turned)).drew = X at p0X p1X s0X r0X x0X hOX hsX hpX hcX hBX hszX ⊢
              go_still_tail 14, (by kernel_rfl)
              change wpList _ _ _ _ _ X.drew
              clear e1 e2
              have hdo := Lib.hid (own_ne hOX.out.outer hpX.out (by decide))
              have hdr : Hid (∀ u ∈ vX, u.ownBlock = none ∨ u.ownBlock ≠ (Value.slice A L c).ownBlock) := Lib.hid (fun u hu => by
                obtain ⟨j, hj, rfl⟩ := List.getElem_of_mem hu
                have hr := hOX.out.rows j _ _ (List.getElem?_eq_getElem (by have := hOX.out.len; omega)) (List.getElem?_eq_getElem hj)
                exact own_ne hr hpX.out (by decide))
              have hsv := Lib.hid (sys_ne hOX.out hsX.out)
              go_wp2_with fail
              refine (clear_any (swapM s.rows i L) n m L k sb base _ vX (!s.turned) X.drew (hOX.out.kept (Below.refl _ _).drew) hok2.out hn hm (by omega) hkm hsX.out).mono ?_
              rintro e W2 ⟨rfl, hO2, hK2⟩
              have p0' := hK2.cell p0X hxn.out
              have p1' := hK2.cell p1X hxn.out
              replace hO2 := Lib.hid hO2
              replace hK2 := Lib.hid hK2
              have hpw := own_of_block hpX.out (fun g e => hK2.out.block g (hpX.out.lt g e).2 (fun u hu e2 => by
                rcases hdr.out u hu with h | h
                · rw [h] at e2; cases e2
                · exact h (e2.trans e.symm)))
              have hbs : base ≤ W2.heap.size := Nat.le_trans hbw (Nat.le_trans hBX.out.size hK2.out.size)
              go_wp2_with (at_builtin; (refine wpList_append_lies _ rfl _ _ 124 rfl base 132 ip _ 2 16 Tryd.underlying124 hip hp0 hp1 hp2 rfl (by omega) (.slice A L c) L (pivCells s.piv) rfl (hpw.alloc _) ⟨W2.heap.size, 0, none⟩ 1 1 [.int .i64 L, .int .i64 k] rfl rfl (World.news_of_block (cs := #[.int .i64 L, .int .i64 k]) (t := 132) (fr := (0, 0)) (heap_alloc_new W2 _)) (by simp [Value.oneCell']) (by omega) (by unfold maxLen; omega) (by omega) (by simp; omega) (W2.heap.size + 1) (by simp) ?_); intro gg cap w3 hown3 hgrow hat hlt3)
              have hpiv := hfp.out
              have hfin := solve_fin (w := w) (k := k) (i := i) hL.out hI.out.out.ok hLi hi hO2.out hcbX.out hsv.out (by rw [if_neg hiL]; exact hsX.out) hpX.out hdo.out hdr.out hcX.out hcb.out hBX.out hbw (KeptBut.of_below (Below.refl _ _).drew |>.trans hK2.out) hgrow hown3
              rw [← hpiv] at hfin
              replace hfin := Lib.hid hfin
              have hdt : Hid ((stepS s k).det = s.det * gM s.rows i k % 65521) := Lib.hid (by rw [hpiv, pivS, hL.out, hgm.out])
              clear hpiv hpw hown3 hgrow hat hlt3
              go_wp2
              go_roundg (gO - 1)
              case measure => omega
              case rel => exact ⟨q + 1, stepS s k, by omega, by omega, by go_num, Lib.hid (by rw [List.take_add_one, hk.out, List.foldl_append, ← hst.out]; rfl), by rw [hdt.out], hfin⟩
        · obtain rfl : n = i := by omega
          have hfp : Hid (stepS s k = s) := Lib.hid (by rw [stepS, hI.out.out.ok.1, hL.out, findP_none (fun j h1 h2 => hz.out j h1 (by omega))])
          go_wp2
          go_roundg (gO - 1)
          case measure => omega
          case rel => exact ⟨q + 1, s, by omega, by omega, by go_num, Lib.hid (by rw [List.take_add_one, hk.out, List.foldl_append, ← hst.out]; exact hfp.out.symm), rfl, hI.out⟩
    · obtain rfl : q = cols.length := by omega
      have hs2 : Hid (solveS rs cols t = s) := Lib.hid (by rw [hst.out, List.take_length]; rfl)
      go_wp2
      rw [Exit.noGoto_ret]
      go_ret2
      rw [hs2.out]
      exact ⟨_, rfl, hI.out⟩
end Go.Proofs.YtfljkcmijnhgkaaDoor
