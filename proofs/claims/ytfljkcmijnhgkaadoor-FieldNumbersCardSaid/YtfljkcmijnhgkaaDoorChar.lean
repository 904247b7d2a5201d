/- Char: its contract. -/
import Derived.Test.YtfljkcmijnhgkaaDoorInverse
import Derived.Test.YtfljkcmijnhgkaaDoorPub2
namespace Go.Proofs.YtfljkcmijnhgkaaDoor
open Go.RowKit Go.Shelf
set_option linter.unusedSimpArgs false

theorem KeptBut.owns {vs : List Value} {w w' : World} (h : KeptBut vs w w') {base : Nat} {e : TypeId} {size : Nat} {v : Value} {n : Nat} {xs : List Value} (ho : w.ownsRow base e size v n xs) (hne : ∀ b, v.ownBlock = some b → ∀ u ∈ vs, u.ownBlock ≠ some b) : w'.ownsRow base e size v n xs := by
  refine ⟨ho.1, ?_⟩
  rcases ho.2 with hn | ⟨g, cap, cur, rfl, hb', hgg, rest⟩
  · exact .inl hn
  · exact .inr ⟨g, cap, cur, rfl, hb', (h.block g (Array.getElem?_eq_some_iff.1 hgg).1 (hne g rfl)).trans hgg, rest⟩
theorem okM_diag {M : List (List Int)} {n : Nat} (h : okM M n n) (c : Int) : okM (diagM M c n) n n :=
  okM_mat _ _ _ fun i j _ _ => by
    split
    · omega
    · exact h.num i j
theorem chC_bd (m : List (List Int)) (n k : Nat) : 0 ≤ chC m n k ∧ chC m n k < 65521 := by unfold chC; omega
theorem okM_chP {a : List (List Int)} {n : Nat} (h : okM a n n) (hn : 0 < n) (k : Nat) : okM (chP a n k).1 n n := by
  cases k with
  | zero => exact okM_id n
  | succ k => exact okM_diag (okM_prod h (okM_chP h hn k) hn) _
theorem chP_len (a : List (List Int)) (n k : Nat) : (chP a n k).2.length = k := by
  induction k with
  | zero => rfl
  | succ k ih => simp only [chP, List.length_append, ih, List.length_singleton]
/-- Rows before i have their diagonal's number. -/
def dgP (M : List (List Int)) (c : Int) (j : Nat) : List (List Int) := (List.range M.length).map fun i => if i < j then (M.getD i []).set i ((gM M i i + 65521 - c) % 65521) else M.getD i []
theorem dgP_zero (M : List (List Int)) (c : Int) : dgP M c 0 = M := by
  apply List.ext_getElem (by simp [dgP])
  intro j h1 h2
  simp [dgP, List.getD_eq_getElem?_getD, h2]
theorem dgP_get (M : List (List Int)) (c : Int) {i : Nat} (hi : i < M.length) : (dgP M c i)[i]? = some (M.getD i []) := by
  rw [dgP, List.getElem?_map, List.getElem?_range hi, Option.map_some, if_neg (by omega)]
theorem dgP_set (M : List (List Int)) (c : Int) (i : Nat) : (dgP M c i).set i ((M.getD i []).set i ((gM M i i + 65521 - c) % 65521)) = dgP M c (i + 1) := by
  apply List.ext_getElem (by simp [dgP])
  intro j h1 h2
  rw [List.getElem_set]
  simp only [dgP, List.getElem_map, List.getElem_range]
  by_cases e : i = j
  · subst e; rw [if_pos rfl, if_pos (by omega)]
  · rw [if_neg e]
    by_cases h : j < i
    · rw [if_pos h, if_pos (by omega)]
    · rw [if_neg h, if_neg (by omega)]
theorem dgP_end {M : List (List Int)} {n : Nat} (h : okM M n n) (c : Int) : dgP M c n = diagM M c n := by
  apply List.ext_getElem (by simp [dgP, diagM, mat, h.1])
  intro i h1 h2
  have hi : i < n := by simpa [dgP, h.1] using h1
  simp only [dgP, diagM, mat, List.getElem_map, List.getElem_range, if_pos hi]
  have hl := h.row hi
  apply List.ext_getElem (by simp; exact hl)
  intro j g1 g2
  have hj : j < n := by simpa using g2
  rw [List.getElem_set]
  simp only [List.getElem_map, List.getElem_range]
  by_cases e : i = j
  · rw [if_pos e, if_pos e]
  · rw [if_neg e, if_neg e]
    show _ = (M.getD i []).getD j 0
    rw [List.getD_eq_getElem?_getD (l := M.getD i []), List.getElem?_eq_getElem (by rw [hl]; exact hj)]; rfl
set_option maxRecDepth 100000 in
set_option maxHeartbeats 3200000 in
theorem Char_any (rs : List (List Int)) (v : Value) (w : World) (h : RdM w v rs) :
    Calls Tryd.prog 27 #[v] w (RowErr (charR rs) w) := by
  have hsq := Lib.hid (square_any rs v w h)
  by_cases h0 : squareM rs = 0
  · obtain ⟨hok, h1, h2⟩ := squareM_ok h0
    rw [h0] at hsq
    have hrd := Lib.hid (fun W (hW : Below w.heap.size w W) => h.below hW (Nat.le_refl _))
    obtain ⟨i0, hi0, hz0, hz1, hz2⟩ := info_parts infoI
    obtain ⟨A, c, rfl, l1, l2, -⟩ := h.open_
    have hr : Hid (charR rs = (0, (chP rs rs.length rs.length).2)) := Lib.hid (by rw [charR, if_neg (by simpa using h0)])
    clear h h0
    generalize hN : rs.length = n at hsq hok h1 h2 hrd l1 l2 hr ⊢
    replace hN := Lib.hid hN
    have hokc := Lib.hid (fun k => okM_chP hok h1 k)
    replace hok := Lib.hid hok
    go_enter Tryd.func27, Tryd.ntmps27
    go_wp2_with fail
    refine hsq.out.mono ?_; rintro e W0 ⟨rfl, hB0⟩
    clear hsq
    go_wp2_with fail
    refine (identity_any n W0 (by omega)).mono ?_; rintro e W1 ⟨⟨vI, rfl, hOI⟩, hB1⟩
    obtain ⟨GI, CI, rfl⟩ : ∃ G C, vI = .slice G n C := by obtain ⟨vs, h1, _⟩ := hOI; rw [(okM_id n).1] at h1; exact own_form h1
    have hB2 := Lib.hid (Below.then_ hB0 hB1)
    have hOI2 := Lib.hid (hOI.base hB0.size)
    clear hB0 hB1 hOI
    go_wp2
    go_loopw [6, 7, 8, 9, 10, 11, 12, 23] (fun o m _ _ _ _ _ i wr => ∃ k : Nat, k ≤ n ∧ i = .int .i64 k ∧ Hid (Below w.heap.size w wr) ∧ (∃ G C, m = .slice G n C ∧ Hid (OwnM wr w.heap.size (.slice G n C) (chP rs n k).1)) ∧ ∃ A c, o = .slice A k c ∧ Hid (OwnI wr w.heap.size (.slice A k c) (chP rs n k).2)) (fun _ _ _ _ _ _ _ i _ => n - (intOf i).toNat)
    case atStart => exact ⟨0, Nat.zero_le _, rfl, hB2, ⟨GI, CI, rfl, hOI2⟩, none, 0, rfl, Lib.hid (OwnI_nil _ _)⟩
    case round =>
      obtain ⟨k, hk, rfl, hB, ⟨G, C, rfl, hM⟩, A6, c6, rfl, hO⟩ := hrel
      by_cases hlt : k < n
      · have k1 : (k : Int) < (n : Int) := by omega
        have hpr := Lib.hid (product_any rs (chP rs n k).1 n n n (.slice A n c) (.slice G n C) wr hok.out (hokc.out k) (by omega) (by omega) (by omega) (by omega) (hrd.out wr hB.out) (hM.out.rdOk (hokc.out k) (by omega) (by omega)))
        have hokp := Lib.hid (okM_prod hok.out (hokc.out k) (show 0 < n by omega))
        have hst1 : Hid ((chP rs n (k + 1)).1 = diagM (prodM rs (chP rs n k).1) (chC (prodM rs (chP rs n k).1) n k) n) := Lib.hid rfl
        have hst2 : Hid ((chP rs n (k + 1)).2 = (chP rs n k).2 ++ [chC (prodM rs (chP rs n k).1) n k]) := Lib.hid rfl
        have hol : ((chP rs n k).2).length = k := chP_len _ _ _
        have hOx := hO.out
        unfold OwnI at hOx
        rw [hol] at hOx
        replace hOx := Lib.hid hOx
        replace hol := Lib.hid hol
        generalize prodM rs (chP rs n k).1 = M at hpr hokp hst1 hst2
        clear hM hO
        go_wp2_with fail
        refine hpr.out.mono ?_; rintro e W2 ⟨⟨vM, rfl, hOM⟩, hBP⟩
        obtain ⟨G, C, rfl⟩ : ∃ G C, vM = .slice G n C := by obtain ⟨vs, h1, _⟩ := hOM; rw [hokp.out.1] at h1; exact own_form h1
        obtain ⟨vs, hV⟩ := hOM.v
        obtain ⟨g, rfl⟩ : ∃ g, G = some ⟨g, 0, none⟩ := by
          obtain ⟨g, c', e, _, h4⟩ := hV.outer.form (by rw [hokp.out.1]; omega)
          simp only [Value.slice.injEq] at e
          exact ⟨g, e.1⟩
        have hBW := Lib.hid (Below.then_ hB.out hBP)
        have hOx2 := Lib.hid (own_below hOx.out hBP)
        have hob : Hid (∀ b, (Value.slice A6 k c6).ownBlock = some b → w.heap.size ≤ b ∧ b < wr.heap.size) := Lib.hid (fun b hb => hOx.out.lt b hb)
        have hwr : Hid (w.heap.size ≤ wr.heap.size ∧ wr.heap.size ≤ W2.heap.size) := Lib.hid ⟨hB.out.size, hBP.size⟩
        replace hV := Lib.hid hV
        clear hpr hOM hBP hOx
        have hbd := Lib.hid (fun q => psum_bd (f := fun i => gM M i i) (fun j => hokp.out.num j j) q)
        go_wp2
        go_loop [9, 10, 30] (fun t _ i => ∃ q : Nat, q ≤ n ∧ i = .int .i64 q ∧ t = .int .i64 (psum (fun i => gM M i i) q)) (fun _ _ i => n - (intOf i).toNat)
        case atStart => exact ⟨0, Nat.zero_le _, rfl, rfl⟩
        case round =>
          obtain ⟨q, hq, rfl, rfl⟩ := hrel
          have ⟨p1, p2⟩ := hbd.out q
          by_cases hql : q < n
          · have hrow : M[q]? = some (M.getD q []) := by rw [List.getD_eq_getElem?_getD, List.getElem?_eq_getElem (by rw [hokp.out.1]; exact hql)]; rfl
            obtain ⟨u, hu⟩ : ∃ u, vs[q]? = some u := ⟨_, List.getElem?_eq_getElem (by rw [hV.out.len, hokp.out.1]; exact hql)⟩
            obtain ⟨g', c', e, -, -, hc, -⟩ := hV.out.at_ hrow hu
            simp only [Value.slice.injEq, Option.some.injEq, Addr.mk.injEq, and_true] at e
            obtain ⟨rfl, -, -⟩ := e
            obtain ⟨g2, c2, rfl, -, -, hcn, -⟩ := hV.out.num hrow hu (k := q) (by rw [hokp.out.row hql]; exact hql)
            rw [hokp.out.row hql] at hc
            change W2.cell? _ = some (.int .i64 (gM M q q)) at hcn
            have hs : Hid (psum (fun i => gM M i i) (q + 1) = psum (fun i => gM M i i) q + gM M q q) := Lib.hid rfl
            have ⟨n1, n2⟩ := hokp.out.num q q
            clear hrow hu
            generalize psum (fun i => gM M i i) q = S at p1 p2 hs ⊢
            generalize gM M q q = x at n1 n2 hcn hs
            have q1 : (q : Int) < (n : Int) := by omega
            have q0 : (0 : Int) ≤ (q : Int) := by omega
            go_wp2
            go_round
            case rel => exact ⟨q + 1, by omega, by go_num, congrArg (Value.int .i64) hs.out.symm⟩
            case measure => simp [intOf]; omega
          · obtain rfl : q = n := by omega
            have htr : Hid (psum (fun i => gM M i i) q = traceM M q) := Lib.hid rfl
            have hiv := Lib.hid (fun W => inverse_any ((k : Int) + 1) W (by omega) (by omega))
            have ⟨v1, v2⟩ := invN_bd ((k : Int) + 1)
            have hcc : Hid (chC M q k = traceM M q % 65521 * invN ((k : Int) + 1) % 65521) := Lib.hid rfl
            generalize psum (fun i => gM M i i) q = S at p1 p2 htr ⊢
            rw [← htr.out] at hcc
            generalize invN ((k : Int) + 1) = iv at v1 v2 hiv hcc
            generalize chC M q k = cc at hcc hst1 hst2
            have ⟨m1, m2⟩ := mul_bd (a := S % 65521) (b := iv) (by omega) (by omega) v1 v2
            go_wp2_with fail
            refine (hiv.out _).mono ?_; rintro e W3 ⟨rfl, rfl⟩
            have hxv : S % 65521 * iv % 65521 = cc := hcc.out.symm
            have hbX : Below W2.heap.size W2 (W2.alloc (.cells #[.int .i64 cc] 3)) := (Below.refl _ _).alloc (Nat.le_refl _) _
            have hOx3 := Lib.hid (own_below hOx2.out hbX)
            obtain ⟨hw1, hw2⟩ := hwr.out
            clear hiv htr
            go_wp2_with (at_builtin; (refine wpList_append_lies _ rfl _ _ 23 rfl w.heap.size 3 i0 _ 1 8 Tryd.underlying23 hi0 hz0 hz1 hz2 rfl (by omega) (.slice A6 k c6) k (ints (chP rs q k).2) rfl hOx3.out ⟨W2.heap.size, 0, none⟩ 1 1 [.int .i64 cc] rfl rfl (World.news_of_block (cs := #[.int .i64 cc]) (t := 3) (fr := (0, 0)) (heap_alloc_new W2 _)) (by simp [Value.oneCell']) (by omega) (by unfold maxLen; omega) (by omega) (by simp; omega) (W2.heap.size + 1) (by simp) ?_); intro gg cap w3 hown3 hgrow hat hlt3)
            have hfin : Hid (OwnI w3 w.heap.size (.slice (some ⟨gg, 0, none⟩) (k + 1) cap) (chP rs q (k + 1)).2) := Lib.hid (by
              rw [hst2.out]; unfold OwnI; rw [List.length_append, hol.out]; simpa [ints] using hown3)
            have hV3 : Hid (OwnMv w3 wr.heap.size (.slice (some ⟨g, 0, none⟩) q C) M vs) := Lib.hid (by
              refine (hV.out.kept hbX).grownBy hgrow ?_ ?_
              · refine .inr fun e => ?_
                have h5 := (hob.out g (by rw [← e]; rfl)).2
                have h6 := (hV.out.outer.lt g rfl).1
                omega
              · intro u hu
                cases hb : u.ownBlock with
                | none => exact .inl rfl
                | some b =>
                  refine .inr fun e => ?_
                  have h5 := (hob.out b e.symm).2
                  have h6 := (hV.out.ge u hu b hb).1
                  omega)
            have hgg : Hid (∀ b, (Value.slice (some ⟨gg, 0, none⟩) (k + 1) cap).ownBlock = some b → ∀ u ∈ vs, u.ownBlock ≠ some b) := Lib.hid (by
              intro b hb u hu e
              have hb' : gg = b := by simpa [Value.ownBlock] using hb
              subst hb'
              have h6 := hV.out.ge u hu gg e
              rcases hat with h | h
              · have := (hob.out gg h).2; omega
              · omega)
            have hbf : Hid (Below w.heap.size w w3) := Lib.hid ((Below.then_ hBW.out hbX).grown hgrow (by simp; omega) (fun j hj => (hob.out j hj).1))
            have hvge : Hid (∀ u ∈ vs, ∀ b, u.ownBlock = some b → w.heap.size ≤ b) := Lib.hid (fun u hu b hb => by have := (hV.out.ge u hu b hb).1; omega)
            have ⟨cc1, cc2⟩ : 0 ≤ cc ∧ cc < 65521 := by rw [← hxv]; omega
            clear hown3 hgrow hat hlt3 hbX hOx3 hOx2 hxv hbd p1 p2 m1 m2 v1 v2 hcc hBW hV hob
            go_wp2
            obtain ⟨wo, rfl⟩ : ∃ wo : World, wo = wr := ⟨_, rfl⟩
            go_loopw [12, 55] (fun _ i wr => ∃ j : Nat, j ≤ q ∧ i = .int .i64 j ∧ Hid (KeptBut vs w3 wr) ∧ Hid (OwnMv wr wo.heap.size (.slice (some ⟨g, 0, none⟩) q C) (dgP M cc j) vs)) (fun _ i _ => q - (intOf i).toNat)
            case atStart => exact ⟨0, Nat.zero_le _, rfl, Lib.hid (KeptBut.refl _ _), Lib.hid (by rw [dgP_zero]; exact hV3.out)⟩
            case round =>
              obtain ⟨j, hj, rfl, hK, hV⟩ := hrel
              by_cases hjl : j < q
              · have hrow := dgP_get M cc (i := j) (by rw [hokp.out.1]; exact hjl)
                obtain ⟨u, hu⟩ : ∃ u, vs[j]? = some u := ⟨_, List.getElem?_eq_getElem (by rw [hV.out.len]; simp [dgP, hokp.out.1]; exact hjl)⟩
                obtain ⟨g', c', e, -, -, hc, -⟩ := hV.out.at_ hrow hu
                simp only [Value.slice.injEq, Option.some.injEq, Addr.mk.injEq, and_true] at e
                obtain ⟨rfl, -, -⟩ := e
                obtain ⟨g2, c2, rfl, -, -, hcn, hfn⟩ := hV.out.num hrow hu (k := j) (by rw [hokp.out.row hjl]; exact hjl)
                rw [hokp.out.row hjl] at hc hu
                change wr.cell? _ = some (.int .i64 (gM M j j)) at hcn
                have hput := (hV.out.kept (Below.refl _ _).drew).put (k := j) hrow hu ((gM M j j + 65521 - cc) % 65521)
                rw [dgP_set] at hput
                obtain ⟨hp1, hp2⟩ := hput
                have hp2' := Lib.hid (hK.out.drew.trans hp2)
                replace hp1 := Lib.hid hp1
                have ⟨n1, n2⟩ := hokp.out.num j j
                clear hrow hu hp2
                generalize gM M j j = x at n1 n2 hcn hp1 hp2'
                have j1 : (j : Int) < (q : Int) := by omega
                have j0 : (0 : Int) ≤ (j : Int) := by omega
                go_wp2
                go_still_tail 17, (by kernel_rfl)
                change wpList _ _ _ _ _ wr.drew
                go_wp2
                go_roundw
                case rel => exact ⟨j + 1, by omega, by go_num, hp2', hp1⟩
                case measure => simp [intOf]; omega
              · obtain rfl : j = q := by omega
                have hMf : Hid (OwnM wr w.heap.size (.slice (some ⟨g, 0, none⟩) j C) (chP rs j (k + 1)).1) := Lib.hid (by
                  have := hV.out.m.base hw1
                  rwa [dgP_end hokp.out, ← hst1.out] at this)
                have hOf : Hid (OwnI wr w.heap.size (.slice (some ⟨gg, 0, none⟩) (k + 1) cap) (chP rs j (k + 1)).2) := Lib.hid (hK.out.owns hfin.out hgg.out)
                have hBf : Hid (Below w.heap.size w wr) := Lib.hid (hbf.out.trans (hK.out.below hbf.out.size hvge.out))
                clear hV hK
                go_wp2
                go_roundw
                case rel => exact ⟨k + 1, by omega, by go_num, hBf, ⟨_, _, rfl, hMf⟩, _, _, rfl, hOf⟩
                case measure => simp [intOf]; omega
      · obtain rfl : k = n := by omega
        go_wp2
        go_ret2
        rw [hr.out]
        exact ⟨_, rfl, hO.out, hB.out⟩
  · have hr : Hid (charR rs = (squareM rs, [])) := Lib.hid (by rw [charR, if_pos (by simpa using h0)])
    have hne : (squareM rs != 0) = true := by rw [bne_iff_ne]; exact h0
    have hca := squareM_cases rs
    generalize squareM rs = x at *
    clear h h0
    go_enter Tryd.func27, Tryd.ntmps27
    go_wp2_with fail
    refine hsq.out.mono ?_; rintro e W0 ⟨rfl, hB0⟩
    go_wp2
    go_ret2
    rw [hr.out]
    exact ⟨_, rfl, OwnI_nil _ _, hB0⟩
end Go.Proofs.YtfljkcmijnhgkaaDoor
