/- FieldSolved: its contract. -/
import Derived.Test.YtfljkcmijnhgkaaDoorKzd
import Derived.Test.YtfljkcmijnhgkaaDoorKn
import Derived.Test.YtfljkcmijnhgkaaDoorKw
import Derived.Test.YtfljkcmijnhgkaaDoorKq
namespace Go.Proofs.YtfljkcmijnhgkaaDoor
open Go.RowKit Go.Shelf
set_option linter.unusedSimpArgs false

theorem OwnI.put_other {w : World} {base base' g n c k : Nat} {x : Int} {xs ys : List Int} {v : Value} (h : OwnI w base (.slice (some ⟨g, 0, none⟩) n c) xs) (h' : OwnI w base' v ys) (hne : v.ownBlock = none ∨ v.ownBlock ≠ some g) : OwnI (w.setCell ⟨g, k, none⟩ (.int .i64 x)) base' v ys := by
  unfold OwnI at h
  have hn : xs.length = n := by
    rcases h.2 with ⟨e, _⟩ | ⟨_, _, _, e, _⟩
    · simp at e
    · simp only [Value.slice.injEq] at e; exact e.2.1.symm
  subst hn
  exact World.ownsRow.kept h' (h.stored k (.int .i64 x)).2 hne
set_option maxRecDepth 100000 in
set_option maxHeartbeats 6400000 in
theorem FieldSolved_any (rw' cl : Nat) (sp : Bool) (n1 n2 : Nat) (v1 v2 : Value) (w : World) (h1 : RdB w w.heap.size v1 n1) (h2 : RdB w w.heap.size v2 n2) (hrw : rw' < 256) (hcl : cl < 256) (hJ : Joins w) :
    Calls Tryd.prog 15 #[v1, v2, .int .u8 rw', .int .u8 cl, .bool sp] w fun e w' => e = .returned (.bool true) ∧ Below w.heap.size w w' := by
  obtain ⟨iI, hiI, hI0, hI1, hI2⟩ := info_parts infoI
  obtain ⟨iR, hiR, hR0, hR1, hR2⟩ := info_parts infoR
  have hA := Lib.hid (fun W (hW : Below w.heap.size w W) => awake_any W (hJ.below hW))
  have f1 := Lib.hid (Fill_any n1 v1 w h1)
  have f2 := Lib.hid (fun W (hW : Below w.heap.size w W) => Fill_any n2 v2 W ((h2.below hW (Nat.le_refl _)).mono hW.size))
  have hT := Lib.hid (Below.refl w.heap.size w)
  obtain ⟨m, hm⟩ : ∃ m, m = rw' % 8 + 1 := ⟨_, rfl⟩
  obtain ⟨n, hn⟩ : ∃ n, n = cl % 7 + 1 := ⟨_, rfl⟩
  have hm1 : 0 < m := by omega
  have hm2 : m ≤ 8 := by omega
  have hn1 : 0 < n := by omega
  have hn2 : n ≤ 7 := by omega
  have e8 : (rw' : Int).tmod 8 = ((rw' % 8 : Nat) : Int) := by rw [Int.tmod_eq_emod_of_nonneg (by omega)]; omega
  have e9 : ((rw' % 8 : Nat) : Int) + 1 = (m : Int) := by omega
  have e7 : (cl : Int).tmod 7 = ((cl % 7 : Nat) : Int) := by rw [Int.tmod_eq_emod_of_nonneg (by omega)]; omega
  have e6 : ((cl % 7 : Nat) : Int) + 1 = (n : Int) := by omega
  generalize rw' % 8 = s8 at *
  generalize cl % 7 = s7 at *
  replace hm := Lib.hid hm
  replace hn := Lib.hid hn
  clear h1 h2 hJ
  go_enter Tryd.func15, Tryd.ntmps15
  go_wp2_with fail
  refine (f1.out).mono ?_; rintro e V1 ⟨rfl, hS, hN1⟩
  replace hT := Lib.hid (Below.then_ hT.out hN1)
  have z_V1 := hN1.size; clear hN1
  replace hS := Lib.hid hS
  go_wp2_with fail
  refine (matrix_any w.heap.size 0 m n V1 hS.out (by omega) hm1 (by omega) hn1 (by omega)).mono ?_; rintro e V2 ⟨⟨va, A, rfl, okA, oA⟩, -, hB2⟩
  have rA0 := Lib.hid (oA.rdOk okA (by omega) (by omega))
  replace okA := Lib.hid okA
  replace hT := Lib.hid (hT.out.trans ((hB2.below (by omega)).mono (by omega)))
  have z_V2 := hB2.size; clear hB2
  clear oA hS f1
  have hP := Lib.hid (Below.refl V2.heap.size V2)
  have rA := Lib.hid (fun W (hW : Below V2.heap.size V2 W) => rA0.out.below hW (Nat.le_refl _))
  have hT2 := Lib.hid (fun W (hW : Below V2.heap.size V2 W) => hT.out.trans (hW.mono hT.out.size))
  go_wp2_with fail
  refine (f2.out V2 hT.out).mono ?_; rintro e V3 ⟨rfl, hS, hN2⟩
  replace hT := Lib.hid (Below.then_ hT.out hN2)
  replace hP := Lib.hid (Below.then_ hP.out hN2)
  have z_V3 := hN2.size; clear hN2
  have hS0 := Lib.hid hS
  have hgl := hS.lt
  have hP3 := Lib.hid hP.out
  clear hS f2
  clear hT hP
  go_wp2
  go_loopw [15, 42] (fun o ii wr => ∃ k : Nat, k ≤ n ∧ ii = .int .i64 k ∧ Hid (SackAt wr V2.heap.size (0 + 2 * k)) ∧ Hid (Btw V2.heap.size (V2.heap.size + 1) V3 wr) ∧ Hid (∃ xs, okL xs k ∧ OwnI wr V3.heap.size o xs)) (fun _ ii _ => n - (intOf ii).toNat)
  case atStart => exact ⟨0, Nat.zero_le _, rfl, hS0, Lib.hid (Btw.refl _ _ _), Lib.hid ⟨[], ⟨rfl, fun r hr => by cases hr⟩, OwnI_nil _ _⟩⟩
  case round =>
    obtain ⟨q, hq, rfl, hS2, hB2, hX⟩ := hrel
    rename World => wr
    by_cases hqm : q < n
    · have j1 : (q : Int) < (n : Int) := by omega
      have j0 : (0 : Int) ≤ (q : Int) := by omega
      obtain ⟨xs, hxs, ho⟩ := hX.out
      obtain ⟨B1, d1, rfl⟩ := own_shape ho
      have hxl := hxs.1
      rw [hxl]
      replace ho := Lib.hid ho
      replace hxs := Lib.hid hxs
      replace hxl := Lib.hid hxl
      have hd := Lib.hid (draws_any V2.heap.size _ wr hS2.out (by omega))
      clear hX hS2
      go_wp2_with fail
      refine hd.out.mono ?_; rintro e W ⟨⟨x, rfl, hx0, hx1⟩, hS3, hB3⟩
      have hz2 := hB2.out.size
      have hz3 := hB3.size
      have how : Hid ((W.alloc (.cells #[.int .i64 x] 3)).ownsRow V3.heap.size 3 1 (.slice B1 q d1) q (ints xs)) := Lib.hid (by
        have := (hB3.ownI ho.out (by omega)).below ((Below.refl W.heap.size W).alloc (Nat.le_refl _) (.cells #[.int .i64 x] 3))
        unfold OwnI at this
        rwa [hxl.out] at this)
      have hB4 := Lib.hid (hB2.out.trans hB3)
      have hS4 := Lib.hid hS3
      clear hB3 hS3 hd
      go_wp2_with (at_builtin; (refine wpList_append_own_at _ rfl _ _ 23 rfl V3.heap.size 3 iI _ 1 8 Tryd.underlying23 hiI hI0 hI1 hI2 rfl (by omega) (.slice B1 q d1) q (ints xs) rfl how.out ⟨W.heap.size, 0, none⟩ 1 1 [.int .i64 x] rfl rfl (cell_one_new W _ _) (by simp [Value.oneCell']) (by unfold maxLen; omega) (by omega) (by simp; omega) ?_); intro v' w1 hown1 hgrow _ _)
      have hfin := Lib.hid (own_snoc hxl.out hown1)
      have hBw := ((Below.refl V3.heap.size W).alloc (by omega) (.cells #[.int .i64 x] 3)).grown hgrow (by simp; omega) (fun q hq => (how.out.lt q hq).1)
      have hS5 := Lib.hid (hS4.out.low hBw (by omega))
      have hB5 := Lib.hid (hB4.out.then_ hBw (Nat.le_refl _))
      clear hown1 hgrow hBw
      go_wp2
      go_roundw
      case rel => exact ⟨q + 1, by omega, by go_num, hS5, hB5, Lib.hid ⟨_, hxs.out.snoc ⟨hx0, hx1⟩, hfin.out⟩⟩
      case measure => simp [intOf]; omega
    · obtain rfl : q = n := by omega
      obtain ⟨xs, okx, ho⟩ := hX.out
      obtain ⟨B1, d1, rfl⟩ := own_shape ho
      rw [okx.1] at *
      have hz3 := hP3.out.size
      have hP := Lib.hid (hP3.out.trans ((hB2.out.below (by omega)).mono (Nat.le_refl _)))
      replace okx := Lib.hid okx
      replace ho := Lib.hid ho
      have hz2 := hB2.out.size
      have hpr := Lib.hid (pprod_any A xs m q va (.slice B1 q d1) wr okA.out okx.out (by omega) (by omega) (rA.out _ hP.out) (ho.out.rd (by rw [okx.out.1]; omega)))
      have hS := Lib.hid hS2.out
      clear hX hS2 hB2
      go_wp2_with fail
      refine hpr.out.mono ?_; rintro e W0 ⟨⟨vb, rfl, ob⟩, hB0⟩
      have okb0 := Lib.hid (okL_pv A xs m q)
      obtain ⟨bs0, hbs0⟩ : ∃ bs0, bs0 = pvL A xs m q := ⟨_, rfl⟩
      rw [← hbs0] at ob okb0
      obtain ⟨Bb, db, rfl⟩ := own_shape ob
      rw [okb0.out.1] at ob ⊢
      have hS1 := Lib.hid (hS.out.kept hB0)
      have hP1 := Lib.hid (Below.then_ hP.out hB0)
      have hox := Lib.hid (ho.out.below hB0)
      have hxlt : Hid (∀ g, (Value.slice B1 q d1).ownBlock = some g → g < wr.heap.size) := Lib.hid (fun g hg => (World.ownsRow.lt ho.out g hg).2)
      have hz0 := hB0.size
      replace ob := Lib.hid ob
      replace hbs0 := Lib.hid hbs0
      clear hpr hP hS ho hB0
      go_upto_if 53 with fail
      go_cut [] (fun wx => Hid (Below V2.heap.size V2 wx) ∧ Hid (OwnI wx V3.heap.size (.slice B1 q d1) xs) ∧ Hid (∃ bs, okL bs m ∧ (sp = false → bs = pvL A xs m q) ∧ OwnI wx V3.heap.size (.slice Bb m db) bs))
      case first =>
        cases sp with
        | false =>
          go_wp2
          go_meet
          exact ⟨hP1, hox, Lib.hid ⟨bs0, okb0.out, fun _ => hbs0.out, ob.out.base (by omega)⟩⟩
        | true =>
          have hb := Lib.hid (Below_any V2.heap.size _ m W0 hS1.out (by omega) ⟨by omega, by omega⟩)
          go_wp2_with fail
          refine hb.out.mono ?_; rintro e W1 ⟨⟨i, rfl, hi0, hi1⟩, hS2, hB1⟩
          replace hP1 := Lib.hid (hP1.out.trans ((hB1.below (by have := hP1.out.size; omega)).mono (Nat.le_refl _)))
          replace hox := Lib.hid (hB1.ownI hox.out (by omega))
          replace ob := Lib.hid (hB1.ownI ob.out (by omega))
          have hz1 := hB1.size
          have hd := Lib.hid (draws_any V2.heap.size _ W1 hS2 (by omega))
          clear hb hS2 hB1
          go_wp2_with fail
          refine hd.out.mono ?_; rintro e W2 ⟨⟨y, rfl, hy0, hy1⟩, hS3, hB1⟩
          replace hP1 := Lib.hid (hP1.out.trans ((hB1.below (by have := hP1.out.size; omega)).mono (Nat.le_refl _)))
          replace hox := Lib.hid (hB1.ownI hox.out (by omega))
          replace ob := Lib.hid (hB1.ownI ob.out (by omega))
          have hz4 := hB1.size
          clear hd hS3 hB1
          obtain ⟨i, rfl⟩ := Int.eq_ofNat_of_zero_le hi0
          have him : i < m := by omega
          obtain ⟨gb, cb, eb, hbb, hbl⟩ := World.ownsRow.form ob.out (by have := okb0.out.1; omega)
          simp only [Value.slice.injEq] at eb
          obtain ⟨rfl, -, rfl⟩ := eb
          obtain ⟨hcx, hcf⟩ := ob.out.num (k := i) (by rw [okb0.out.1]; exact him)
          have hput := ob.out.put i y
          have hpx := ob.out.put_other (k := i) (x := y) hox.out (by
            cases e : (Value.slice B1 q d1).ownBlock with
            | none => exact .inl rfl
            | some g => exact .inr (fun e2 => by have := hxlt.out g e; injection e2; omega))
          have hPx := Lib.hid (hP1.out.setCell (p := ⟨gb, i, none⟩) (by show V2.heap.size ≤ gb; omega) (.int .i64 y))
          have okp : okL (bs0.set i y) m := ⟨by rw [List.length_set]; exact okb0.out.1, fun z hz => by
            rcases List.mem_or_eq_of_mem_set hz with hz | rfl
            · exact okb0.out.2 z hz
            · exact ⟨hy0, hy1⟩⟩
          replace hput := Lib.hid (hput.base (show V3.heap.size ≤ wr.heap.size by omega))
          replace hpx := Lib.hid hpx
          replace okp := Lib.hid okp
          generalize bs0.getD i 0 = z at hcx
          go_wp2
          go_meet
          exact ⟨hPx, hpx, Lib.hid ⟨_, okp.out, (fun e => Bool.noConfusion e), hput.out⟩⟩
      case rest =>
      obtain ⟨hP, hox, hob⟩ := hcut
      rename World => Z0
      obtain ⟨bs, okb, hbs, ob⟩ := hob.out
      obtain ⟨AA, cA, eA, -, -, hAr⟩ := (rA.out Z0 hP.out).open_
      rw [okA.out.len] at eA hAr
      subst eA
      have rX := Lib.hid (hox.out.rd (by have := okx.out.1; omega))
      have rB := Lib.hid (ob.rd (by have := okb.1; omega))
      obtain ⟨AB, cB, eB, -, -, hBr⟩ := rB.out.open_
      rw [okb.1] at eB hBr
      simp only [Value.slice.injEq] at eB
      obtain ⟨rfl, -, rfl⟩ := eB
      have hrw' := Lib.hid (fun i (hi : i < m) => okA.out.row hi)
      have hAug : (augM A bs).length = m := by simp [augM, okA.out.1]
      have htk0 := Lib.hid (fun k (hk : k < m) => augM_take A bs (k := k) (by rw [okA.out.1]; exact hk))
      replace okb := Lib.hid okb
      replace hbs := Lib.hid hbs
      replace hAr := Lib.hid hAr
      replace hBr := Lib.hid hBr
      replace hAug := Lib.hid hAug
      clear hob ob hox
      go_wp2
      go_loopw [17, 18, 19, 63] (fun o _ _ ii wr => ∃ k : Nat, k ≤ m ∧ ii = .int .i64 k ∧ Hid (Below Z0.heap.size Z0 wr) ∧ Hid (∃ vs, OwnMv wr Z0.heap.size o ((augM A bs).take k) vs)) (fun _ _ _ ii _ => m - (intOf ii).toNat)
      case atStart => exact ⟨0, Nat.zero_le _, rfl, Lib.hid (Below.refl _ _), Lib.hid ⟨[], by rw [List.take_zero]; exact OwnMv_nil _ _⟩⟩
      case round =>
        obtain ⟨k, hk, rfl, hB, hM⟩ := hrel
        rename World => wr
        by_cases hlt : k < m
        · have k1 : (k : Int) < (m : Int) := by omega
          have k0 : (0 : Int) ≤ (k : Int) := by omega
          have hkl : ((augM A bs).take k).length = k := by rw [List.length_take, hAug.out]; omega
          obtain ⟨vs, hMv⟩ := hM.out
          obtain ⟨A1, c1, rfl⟩ := own_shape hMv.outer
          rw [hkl] at hMv ⊢
          replace hMv := Lib.hid hMv
          replace hkl := Lib.hid hkl
          have hBs := hB.out.size
          obtain ⟨ba, oa, ua, rfl, hca, hua⟩ := hAr.out k hlt
          replace hca := (hB.out.cell (World.block_lt_of_cell? Z0 _ hca)).trans hca
          obtain ⟨bx, ox, rfl, hcx⟩ := hBr.out k hlt
          have HSw : Hid (∀ W, Below Z0.heap.size Z0 W → W.cell? ⟨bx, ox + k, none⟩ = some (.int .i64 (bs.getD k 0))) := Lib.hid (fun W hW => (hW.cell (World.block_lt_of_cell? Z0 _ hcx)).trans hcx)
          have hdu := Lib.hid (fun W (hW : Below Z0.heap.size Z0 W) => Dup_any (A.getD k []) ua W (hua.below hW (Nat.le_refl _)) (by rw [hrw'.out k hlt]; omega))
          have hrl := Lib.hid (hrw'.out k hlt)
          have htk := Lib.hid (htk0.out k hlt)
          clear hM hua hcx
          generalize A.getD k [] = row at *
          generalize bs.getD k 0 = y at *
          have HS0 := HSw.out wr.drew hB.out.drew
          go_wp2
          refine D_begin (fun w' => w'.cell? ⟨bx, ox + k, none⟩ = some (.int .i64 y)) (fun _ => True) 11 (by kernel_rfl) ?_
          change wpAnyD _ _ _ _ _ _ _ _ _ _ wr.drew
          simp only [List.size_toArray, List.length_cons, List.length_nil, Nat.reduceAdd, Array.replicate_succ, Array.replicate_zero, List.push_toArray, List.append_toArray, List.nil_append, List.cons_append]
          refine D_take (i := 0) (v := ?_) rfl (by kernel_rfl) (by kernel_rfl) (by kernel_rfl) (by kernel_rfl) (fun _ _ _ h => h) (Or.inl ⟨by rfl, ?_⟩) HS0 (fun _ => trivial) ?_
          rotate_left; · intro w1 hw1; go_simp; try with_reducible rfl
          try simp only [Act.put, List.getElem_toArray, List.getElem_cons_zero, List.getElem_cons_succ, List.setIfInBounds_toArray, List.set_cons_zero, List.set_cons_succ]
          refine D_take (i := 1) (v := ?_) rfl (by kernel_rfl) (by kernel_rfl) (by kernel_rfl) (by kernel_rfl) (fun _ _ _ h => h) (Or.inl ⟨by rfl, ?_⟩) HS0 (fun _ => trivial) ?_
          rotate_left; · intro w1 hw1; go_simp; try with_reducible rfl
          try simp only [Act.put, List.getElem_toArray, List.getElem_cons_zero, List.getElem_cons_succ, List.setIfInBounds_toArray, List.set_cons_zero, List.set_cons_succ]
          refine D_take (i := 3) (v := ?_) rfl (by kernel_rfl) (by kernel_rfl) (by kernel_rfl) (by kernel_rfl) (fun _ _ _ h => h) (Or.inl ⟨by rfl, ?_⟩) HS0 (fun _ => trivial) ?_
          rotate_left; · intro w1 hw1; go_simp; try with_reducible rfl
          try simp only [Act.put, List.getElem_toArray, List.getElem_cons_zero, List.getElem_cons_succ, List.setIfInBounds_toArray, List.set_cons_zero, List.set_cons_succ]
          refine D_take (i := 4) (v := ?_) rfl (by kernel_rfl) (by kernel_rfl) (by kernel_rfl) (by kernel_rfl) (fun _ _ _ h => h) (Or.inl ⟨by rfl, ?_⟩) HS0 (fun _ => trivial) ?_
          rotate_left; · intro w1 hw1; go_simp; try with_reducible rfl
          try simp only [Act.put, List.getElem_toArray, List.getElem_cons_zero, List.getElem_cons_succ, List.setIfInBounds_toArray, List.set_cons_zero, List.set_cons_succ]
          refine D_take (i := 5) (v := ?_) rfl (by kernel_rfl) (by kernel_rfl) (by kernel_rfl) (by kernel_rfl) (fun _ _ _ h => h) (Or.inl ⟨by rfl, ?_⟩) HS0 (fun _ => trivial) ?_
          rotate_left; · intro w1 hw1; go_simp; try with_reducible rfl
          try simp only [Act.put, List.getElem_toArray, List.getElem_cons_zero, List.getElem_cons_succ, List.setIfInBounds_toArray, List.set_cons_zero, List.set_cons_succ]
          refine D_take (i := 6) (v := ?_) rfl (by kernel_rfl) (by kernel_rfl) (by kernel_rfl) (by kernel_rfl) (fun _ _ _ h => h) (Or.inl ⟨by rfl, ?_⟩) HS0 (fun _ => trivial) ?_
          rotate_left; · intro w1 hw1; go_simp; try with_reducible rfl
          try simp only [Act.put, List.getElem_toArray, List.getElem_cons_zero, List.getElem_cons_succ, List.setIfInBounds_toArray, List.set_cons_zero, List.set_cons_succ]
          have b_Wd : Hid (Below wr.heap.size wr wr.drew) := Lib.hid ((Below.refl _ _).drew)
          have t_Wd := Lib.hid hB.out.drew
          have hzd : Hid (wr.drew.heap.size = wr.heap.size) := Lib.hid rfl
          clear HS0
          generalize wr.drew = Wd at b_Wd t_Wd hzd ⊢
          refine D_two (i := 2) (j := 7) (by kernel_rfl) rfl rfl ?_ ?_
          · intro K hK
            rw [if_pos (by rfl)]
            go_wp2_with fail
            refine (hdu.out Wd t_Wd.out).mono ?_; rintro e W1 ⟨⟨u, rfl, ou⟩, hb1⟩
            obtain ⟨Au, cu, rfl⟩ := own_shape ou
            rw [hrl.out]
            have hb2 : Below W1.heap.size W1 (W1.alloc (.cells #[.int .i64 y] 3)) := (Below.refl _ _).alloc (Nat.le_refl _) _
            have t_W1 := Lib.hid (Below.then_ t_Wd.out hb1)
            have b_W2 := Lib.hid (Below.then_ (Below.then_ b_Wd.out hb1) hb2)
            have t_W2 := Lib.hid (Below.then_ hB.out b_W2.out)
            have r_W2 := Lib.hid (ou.below hb2)
            rw [hrl.out] at r_W2
            have s_W2 : Hid (∀ (j : Nat) u, [.int .i64 y][j]? = some u → (W1.alloc (.cells #[.int .i64 y] 3)).cell? ((⟨W1.heap.size, 0, none⟩ : Addr).add j) = some u) := Lib.hid (cell_one_new W1 _ _)
            have z_W2 : Wd.heap.size ≤ (W1.alloc (.cells #[.int .i64 y] 3)).heap.size := Nat.le_trans hb1.size hb2.size
            refine hK _ _ (HSw.out _ t_W1.out) (fun _ _ => trivial) ?_
            try simp only [Act.put, List.getElem_toArray, List.getElem_cons_zero, List.getElem_cons_succ, List.setIfInBounds_toArray, List.set_cons_zero, List.set_cons_succ]
            clear hK K ou hb1
            refine D_one (i := 7) (by kernel_rfl) rfl ?_
            intro K hK
            rw [if_pos (by rfl)]
            go_simp
            refine hK _ _ (HSw.out _ t_W2.out) (fun _ _ => trivial) ?_
            try simp only [Act.put, List.getElem_toArray, List.getElem_cons_zero, List.getElem_cons_succ, List.setIfInBounds_toArray, List.set_cons_zero, List.set_cons_succ]
            clear hK K hb2
            generalize W1.alloc (.cells #[.int .i64 y] 3) = W2 at b_W2 t_W2 r_W2 s_W2 z_W2 ⊢
            refine D_one (i := 8) (by kernel_rfl) rfl ?_
            intro K hK
            refine step_append_lies _ (by rfl) _ _ _ (by rfl) Wd.heap.size 3 iI _ 1 8 Tryd.underlying23 hiI hI0 hI1 hI2 rfl (by omega) (.slice Au q cu) q (ints row) (by rfl) (by have := r_W2.out; unfold OwnI at this; rwa [hrl.out] at this) ⟨W1.heap.size, 0, none⟩ 1 1 [.int .i64 y] (by rfl) (by rfl) s_W2.out (by simp [Value.oneCell']) (by omega) (by unfold maxLen; omega) (by omega) (z_W2) W2.heap.size rfl ?_
            intro g3 cap3 W3 hown3 hgrow3 hat3 hlt3
            have r_W3 := Lib.hid (own_snoc hrl.out hown3)
            have b_W3 := Lib.hid (b_W2.out.grown hgrow3 b_W2.out.size (fun q hq => by have h := (World.ownsRow.lt r_W2.out q hq).1; have := hzd.out; omega))
            have t_W3 := Lib.hid (Below.then_ hB.out b_W3.out)
            have z_W3 := b_W3.out.size
            clear hown3 hgrow3 hat3 hlt3
            refine hK _ _ (HSw.out _ t_W3.out) (fun _ _ => trivial) ?_
            try simp only [Act.put, List.getElem_toArray, List.getElem_cons_zero, List.getElem_cons_succ, List.setIfInBounds_toArray, List.set_cons_zero, List.set_cons_succ]
            clear hK K
            refine D_one (i := 9) (by kernel_rfl) rfl ?_
            intro K hK
            rw [if_pos (by rfl)]
            go_simp
            have hb4 : Below W3.heap.size W3 (W3.alloc (.cells #[.slice (some ⟨g3, 0, none⟩) (q + 1) cap3] 23)) := (Below.refl _ _).alloc (Nat.le_refl _) _
            have s_W4 : Hid (∀ (j : Nat) u, [.slice (some ⟨g3, 0, none⟩) (q + 1) cap3][j]? = some u → (W3.alloc (.cells #[.slice (some ⟨g3, 0, none⟩) (q + 1) cap3] 23)).cell? ((⟨W3.heap.size, 0, none⟩ : Addr).add j) = some u) := Lib.hid (cell_one_new W3 _ _)
            have o_W4 := Lib.hid (hMv.out.kept (Below.then_ b_W3.out hb4)).outer
            have t_W4 := Lib.hid (Below.then_ t_W3.out hb4)
            have z_W4 := hb4.size
            refine hK _ _ (HSw.out _ t_W4.out) (fun _ _ => trivial) ?_
            try simp only [Act.put, List.getElem_toArray, List.getElem_cons_zero, List.getElem_cons_succ, List.setIfInBounds_toArray, List.set_cons_zero, List.set_cons_succ]
            clear hK K hb4
            refine D_one (i := 10) (by kernel_rfl) rfl ?_
            intro K hK
            refine step_append_lies _ (by rfl) _ _ _ (by rfl) Z0.heap.size 23 iR _ 1 24 Tryd.underlying22 hiR hR0 hR1 hR2 rfl (by omega) (.slice A1 k c1) k vs (by rfl) (by have := o_W4; rwa [hkl.out] at this) ⟨W3.heap.size, 0, none⟩ 1 1 [.slice (some ⟨g3, 0, none⟩) (q + 1) cap3] (by rfl) (by rfl) s_W4.out (by simp [Value.oneCell']) (by omega) (by unfold maxLen; omega) (by omega) (by have := t_W4.out.size; omega) (W3.heap.size + 1) (by simp) ?_
            intro g5 cap5 W5 hown5 hgrow5 hat5 hlt5
            obtain ⟨x1, x2⟩ := snoc_round hB.out hMv.out b_W3.out (r_W3.out.base (by have := hzd.out; omega)) (by rw [hkl.out]) hown5 hgrow5
            rw [htk.out] at x2
            have t_W5 := Lib.hid x1
            have m_W5 := Lib.hid x2
            clear hown5 hgrow5 hat5 hlt5 x1 x2
            refine hK _ _ (HSw.out _ t_W5.out) (fun _ _ => trivial) ?_
            try simp only [Act.put, List.getElem_toArray, List.getElem_cons_zero, List.getElem_cons_succ, List.setIfInBounds_toArray, List.set_cons_zero, List.set_cons_succ]
            clear hK K
            refine D_one (i := 11) (by kernel_rfl) rfl ?_
            intro K hK
            rw [if_pos (by rfl)]
            go_simp
            refine hK _ _ (HSw.out _ t_W5.out) (fun _ _ => trivial) ?_
            try simp only [Act.put, List.getElem_toArray, List.getElem_cons_zero, List.getElem_cons_succ, List.setIfInBounds_toArray, List.set_cons_zero, List.set_cons_succ]
            clear hK K
            refine D_done (by kernel_rfl) ?_ _
            go_wp2
            go_roundw
            case rel => exact ⟨k + 1, by omega, by go_num, t_W5, m_W5⟩
            case measure => simp [intOf]; omega
          · intro K hK
            rw [if_pos (by rfl)]
            go_simp
            have hb1 : Below Wd.heap.size Wd (Wd.alloc (.cells #[.int .i64 y] 3)) := (Below.refl _ _).alloc (Nat.le_refl _) _
            have s_W1 := cell_one_new Wd (.int .i64 y) 3
            have t_W1 := Lib.hid (Below.then_ t_Wd.out hb1)
            have hz1 : Wd.heap.size < (Wd.alloc (.cells #[.int .i64 y] 3)).heap.size := by simp
            refine hK _ _ (HSw.out _ t_W1.out) (fun _ _ => trivial) ?_
            try simp only [Act.put, List.getElem_toArray, List.getElem_cons_zero, List.getElem_cons_succ, List.setIfInBounds_toArray, List.set_cons_zero, List.set_cons_succ]
            clear hK K
            generalize Wd.alloc (.cells #[.int .i64 y] 3) = W1 at hb1 s_W1 t_W1 hz1 ⊢
            refine D_one (i := 2) (by kernel_rfl) rfl ?_
            intro K hK
            rw [if_pos (by rfl)]
            go_wp2_with fail
            refine (hdu.out W1 t_W1.out).mono ?_; rintro e W2 ⟨⟨u, rfl, ou⟩, hb2⟩
            obtain ⟨Au, cu, rfl⟩ := own_shape ou
            rw [hrl.out]
            have b_W2 := Lib.hid (Below.then_ (Below.then_ b_Wd.out hb1) hb2)
            have t_W2 := Lib.hid (Below.then_ hB.out b_W2.out)
            have r_W2 := Lib.hid (ou.base (show Wd.heap.size ≤ W1.heap.size by omega))
            rw [hrl.out] at r_W2
            have s_W2 : Hid (∀ (j : Nat) u, [.int .i64 y][j]? = some u → W2.cell? ((⟨Wd.heap.size, 0, none⟩ : Addr).add j) = some u) := Lib.hid (fun j u hu => by
              have h := s_W1 j u hu
              exact (hb2.cell (World.block_lt_of_cell? W1 _ h)).trans h)
            have z_W2 : Wd.heap.size ≤ W2.heap.size := Nat.le_trans hb1.size hb2.size
            refine hK _ _ (HSw.out _ t_W2.out) (fun _ _ => trivial) ?_
            try simp only [Act.put, List.getElem_toArray, List.getElem_cons_zero, List.getElem_cons_succ, List.setIfInBounds_toArray, List.set_cons_zero, List.set_cons_succ]
            clear hK K ou hb1 hb2 s_W1
            refine D_one (i := 8) (by kernel_rfl) rfl ?_
            intro K hK
            refine step_append_lies _ (by rfl) _ _ _ (by rfl) Wd.heap.size 3 iI _ 1 8 Tryd.underlying23 hiI hI0 hI1 hI2 rfl (by omega) (.slice Au q cu) q (ints row) (by rfl) (by have := r_W2.out; unfold OwnI at this; rwa [hrl.out] at this) ⟨Wd.heap.size, 0, none⟩ 1 1 [.int .i64 y] (by rfl) (by rfl) s_W2.out (by simp [Value.oneCell']) (by omega) (by unfold maxLen; omega) (by omega) (z_W2) W2.heap.size rfl ?_
            intro g3 cap3 W3 hown3 hgrow3 hat3 hlt3
            have r_W3 := Lib.hid (own_snoc hrl.out hown3)
            have b_W3 := Lib.hid (b_W2.out.grown hgrow3 b_W2.out.size (fun q hq => by have h := (World.ownsRow.lt r_W2.out q hq).1; have := hzd.out; omega))
            have t_W3 := Lib.hid (Below.then_ hB.out b_W3.out)
            have z_W3 := b_W3.out.size
            clear hown3 hgrow3 hat3 hlt3
            refine hK _ _ (HSw.out _ t_W3.out) (fun _ _ => trivial) ?_
            try simp only [Act.put, List.getElem_toArray, List.getElem_cons_zero, List.getElem_cons_succ, List.setIfInBounds_toArray, List.set_cons_zero, List.set_cons_succ]
            clear hK K
            refine D_one (i := 9) (by kernel_rfl) rfl ?_
            intro K hK
            rw [if_pos (by rfl)]
            go_simp
            have hb4 : Below W3.heap.size W3 (W3.alloc (.cells #[.slice (some ⟨g3, 0, none⟩) (q + 1) cap3] 23)) := (Below.refl _ _).alloc (Nat.le_refl _) _
            have s_W4 : Hid (∀ (j : Nat) u, [.slice (some ⟨g3, 0, none⟩) (q + 1) cap3][j]? = some u → (W3.alloc (.cells #[.slice (some ⟨g3, 0, none⟩) (q + 1) cap3] 23)).cell? ((⟨W3.heap.size, 0, none⟩ : Addr).add j) = some u) := Lib.hid (cell_one_new W3 _ _)
            have o_W4 := Lib.hid (hMv.out.kept (Below.then_ b_W3.out hb4)).outer
            have t_W4 := Lib.hid (Below.then_ t_W3.out hb4)
            have z_W4 := hb4.size
            refine hK _ _ (HSw.out _ t_W4.out) (fun _ _ => trivial) ?_
            try simp only [Act.put, List.getElem_toArray, List.getElem_cons_zero, List.getElem_cons_succ, List.setIfInBounds_toArray, List.set_cons_zero, List.set_cons_succ]
            clear hK K hb4
            refine D_one (i := 10) (by kernel_rfl) rfl ?_
            intro K hK
            refine step_append_lies _ (by rfl) _ _ _ (by rfl) Z0.heap.size 23 iR _ 1 24 Tryd.underlying22 hiR hR0 hR1 hR2 rfl (by omega) (.slice A1 k c1) k vs (by rfl) (by have := o_W4; rwa [hkl.out] at this) ⟨W3.heap.size, 0, none⟩ 1 1 [.slice (some ⟨g3, 0, none⟩) (q + 1) cap3] (by rfl) (by rfl) s_W4.out (by simp [Value.oneCell']) (by omega) (by unfold maxLen; omega) (by omega) (by have := t_W4.out.size; omega) (W3.heap.size + 1) (by simp) ?_
            intro g5 cap5 W5 hown5 hgrow5 hat5 hlt5
            obtain ⟨x1, x2⟩ := snoc_round hB.out hMv.out b_W3.out (r_W3.out.base (by have := hzd.out; omega)) (by rw [hkl.out]) hown5 hgrow5
            rw [htk.out] at x2
            have t_W5 := Lib.hid x1
            have m_W5 := Lib.hid x2
            clear hown5 hgrow5 hat5 hlt5 x1 x2
            refine hK _ _ (HSw.out _ t_W5.out) (fun _ _ => trivial) ?_
            try simp only [Act.put, List.getElem_toArray, List.getElem_cons_zero, List.getElem_cons_succ, List.setIfInBounds_toArray, List.set_cons_zero, List.set_cons_succ]
            clear hK K
            refine D_one (i := 11) (by kernel_rfl) rfl ?_
            intro K hK
            rw [if_pos (by rfl)]
            go_simp
            refine hK _ _ (HSw.out _ t_W5.out) (fun _ _ => trivial) ?_
            try simp only [Act.put, List.getElem_toArray, List.getElem_cons_zero, List.getElem_cons_succ, List.setIfInBounds_toArray, List.set_cons_zero, List.set_cons_succ]
            clear hK K
            refine D_done (by kernel_rfl) ?_ _
            go_wp2
            go_roundw
            case rel => exact ⟨k + 1, by omega, by go_num, t_W5, m_W5⟩
            case measure => simp [intOf]; omega
        · obtain rfl : k = m := by omega
          obtain ⟨vs, hMv⟩ := hM.out
          rw [List.take_of_length_le (by rw [hAug.out]; exact Nat.le_refl _)] at hMv
          have okW := okM_aug okA.out okb.out.2 okb.out.1
          have rW := Lib.hid (hMv.m.rdOk okW (by omega) (by omega))
          rename_i wide
          have cA := checkM_of okA.out hm1 (by omega) hn1 (by omega)
          have cW := checkM_of okW hm1 (by omega) (by omega) (by omega)
          have eA1 : rankR A = ((rk A q : Int), 0) := by rw [rankR, cA, okA.out.len0 hm1]; simp [rk]
          have eW1 : rankR (augM A bs) = ((rk (augM A bs) (q + 1) : Int), 0) := by rw [rankR, cW, okW.len0 hm1]; simp [rk]
          have eS : solR A bs = match solvedM A bs q with | none => (6, []) | some x => (0, x) := by
            rw [solR, cA, okA.out.1, okb.out.1, isRes_of okb.out.2, okA.out.len0 hm1]; cases solvedM A bs q <;> simp
          have hle := rk_le okA.out
          have hrk := rk_sol okA.out okb.out.2 okb.out.1
          have hP5 := Lib.hid (hP.out.trans (hB.out.mono hP.out.size))
          have hT5 := Lib.hid (hT2.out _ hP5.out)
          have rX5 := Lib.hid (rX.out.below hB.out (Nat.le_refl _))
          have rB5 := Lib.hid (rB.out.below hB.out (Nat.le_refl _))
          have c1 := Lib.hid (fun W (hW : Below V2.heap.size V2 W) => eA1 ▸ Rank_any A _ W (rA.out W hW))
          have c2 := Lib.hid (fun v W (h : RdM W v (augM A bs)) => eW1 ▸ Rank_any (augM A bs) v W h)
          have c3 := Lib.hid (fun v W (hW : Below V2.heap.size V2 W) (h : RdI W v bs) => Solve_any A bs _ v W (rA.out W hW) h)
          have c4 := Lib.hid (fun y v W (oky : okL y q) (hW : Below V2.heap.size V2 W) (h : RdI W v y) => pprod_any A y k q _ v W okA.out oky (by omega) (by omega) (rA.out W hW) h)
          have q1 := Lib.hid (fun xs ys v u W (h1 : RdI W v xs) (h2 : RdI W u ys) => Equal_any xs ys v u W h1 h2)
          have hmin : min (k : Int) (q : Int) = ((min k q : Nat) : Int) := by omega
          have hmn : rk A q ≤ min k q := by omega
          generalize min k q = mn at *
          clear cA cW eA1 eW1 hM hMv hP hB rX rB hAr hBr htk0 hrw' okW
          rcases hrk with ⟨hs, hr⟩ | ⟨hs, hr⟩
          · obtain ⟨y, hy⟩ := Option.ne_none_iff_exists'.1 hs
            obtain ⟨oky, hpy, hfirst⟩ := sol_found okA.out okb.out hy
            rw [hy] at eS
            simp only [eS] at c3
            rw [hr] at c2
            replace hfirst := Lib.hid hfirst
            replace hpy := Lib.hid hpy
            have oky1 := oky.1
            replace oky := Lib.hid oky
            clear eS hs hy hr hAug
            generalize rk A q = r at *
            go_wp2_with fail
            refine (c1.out wr hP5.out).mono ?_; rintro e X1 ⟨rfl, hN1⟩
            replace hP5 := Lib.hid (Below.then_ hP5.out hN1)
            replace hT5 := Lib.hid (Below.then_ hT5.out hN1)
            replace rX5 := Lib.hid (rX5.out.below hN1 (Nat.le_refl _))
            replace rB5 := Lib.hid (rB5.out.below hN1 (Nat.le_refl _))
            replace rW := Lib.hid (rW.out.below hN1 (Nat.le_refl _))
            have z_X1 := hN1.size; clear hN1
            go_wp2_with fail
            refine (c2.out _ X1 rW.out).mono ?_; rintro e X2 ⟨rfl, hN2⟩
            replace hP5 := Lib.hid (Below.then_ hP5.out hN2)
            replace hT5 := Lib.hid (Below.then_ hT5.out hN2)
            replace rX5 := Lib.hid (rX5.out.below hN2 (Nat.le_refl _))
            replace rB5 := Lib.hid (rB5.out.below hN2 (Nat.le_refl _))
            replace rW := Lib.hid (rW.out.below hN2 (Nat.le_refl _))
            have z_X2 := hN2.size; clear hN2
            go_wp2_with fail
            refine (c3.out _ X2 hP5.out rB5.out).mono ?_; rintro e X3 ⟨vy, rfl, oy, hN3⟩
            replace hP5 := Lib.hid (Below.then_ hP5.out hN3)
            replace hT5 := Lib.hid (Below.then_ hT5.out hN3)
            replace rX5 := Lib.hid (rX5.out.below hN3 (Nat.le_refl _))
            replace rB5 := Lib.hid (rB5.out.below hN3 (Nat.le_refl _))
            replace rW := Lib.hid (rW.out.below hN3 (Nat.le_refl _))
            have z_X3 := hN3.size; clear hN3
            change OwnI _ _ _ y at oy
            have ry := Lib.hid (oy.rd (by omega))
            obtain ⟨Ay, cy, ey, -, -, -⟩ := ry.out.open_
            rw [oky1] at ey
            subst ey
            clear oy c1 c2 c3
            have hrs := Lib.hid (fun v W (h : RdI W v y) => (isRes_of oky.out.2) ▸ residues_any y v W h)
            go_wp2_with fail
            refine (hrs.out _ X3 ry.out).mono ?_; rintro e X4 ⟨rfl, hN4⟩
            replace hP5 := Lib.hid (Below.then_ hP5.out hN4)
            replace hT5 := Lib.hid (Below.then_ hT5.out hN4)
            replace rX5 := Lib.hid (rX5.out.below hN4 (Nat.le_refl _))
            replace rB5 := Lib.hid (rB5.out.below hN4 (Nat.le_refl _))
            replace rW := Lib.hid (rW.out.below hN4 (Nat.le_refl _))
            replace ry := Lib.hid (ry.out.below hN4 (Nat.le_refl _))
            have z_X4 := hN4.size; clear hN4
            go_wp2_with fail
            refine (c4.out y _ X4 oky.out hP5.out ry.out).mono ?_; rintro e X5 ⟨⟨vp, rfl, op⟩, hN5⟩
            replace hP5 := Lib.hid (Below.then_ hP5.out hN5)
            replace hT5 := Lib.hid (Below.then_ hT5.out hN5)
            replace rX5 := Lib.hid (rX5.out.below hN5 (Nat.le_refl _))
            replace rB5 := Lib.hid (rB5.out.below hN5 (Nat.le_refl _))
            replace rW := Lib.hid (rW.out.below hN5 (Nat.le_refl _))
            replace ry := Lib.hid (ry.out.below hN5 (Nat.le_refl _))
            have z_X5 := hN5.size; clear hN5
            have rp := Lib.hid (op.rd (by rw [pvL_len]; omega))
            clear op
            have hq := Lib.hid (q1.out (pvL A y k q) bs _ _ X5 rp.out rB5.out)
            rw [decide_eq_true hpy.out] at hq
            go_wp2_with fail
            refine (hq.out).mono ?_; rintro e X6 ⟨rfl, hN6⟩
            replace hP5 := Lib.hid (Below.then_ hP5.out hN6)
            replace hT5 := Lib.hid (Below.then_ hT5.out hN6)
            replace rX5 := Lib.hid (rX5.out.below hN6 (Nat.le_refl _))
            replace rB5 := Lib.hid (rB5.out.below hN6 (Nat.le_refl _))
            replace rW := Lib.hid (rW.out.below hN6 (Nat.le_refl _))
            replace ry := Lib.hid (ry.out.below hN6 (Nat.le_refl _))
            replace rp := Lib.hid (rp.out.below hN6 (Nat.le_refl _))
            have z_X6 := hN6.size; clear hN6
            clear rp
            have hcmp := Lib.hid (fun W (h1 : RdI W _ y) (h2 : RdI W _ xs) => Compare_any y xs (.slice Ay q cy) (.slice B1 q d1) W h1 h2 (by rw [oky1, okx.out.1]))
            clear hrs hq
            cases sp with
            | false =>
              have hcc := Lib.hid (hcmp.out X6 ry.out rX5.out)
              go_wp2_with fail
              refine hcc.out.mono ?_; rintro e w' ⟨⟨c, rfl, hc, hc3⟩, rfl⟩
              have hc0 : c ≤ 0 := hfirst.out xs okx.out (hbs.out (by trivial)).symm c hc
              replace hc := Lib.hid hc
              replace hc3 := Lib.hid hc3
              go_wp2_with fail
              refine (hA.out X6 hT5.out).mono ?_; rintro e V1 ⟨rfl, hN1⟩
              replace hT5 := Lib.hid (Below.then_ hT5.out hN1)
              clear hN1
              go_wp2
              go_ret
              exact ⟨rfl, hT5.out⟩
            | true =>
              clear hbs
              go_wp2_with fail
              refine (c4.out xs _ X6 okx.out hP5.out rX5.out).mono ?_; rintro e X7 ⟨⟨vp, rfl, op⟩, hN1⟩
              replace hP5 := Lib.hid (Below.then_ hP5.out hN1)
              replace hT5 := Lib.hid (Below.then_ hT5.out hN1)
              replace rX5 := Lib.hid (rX5.out.below hN1 (Nat.le_refl _))
              replace rB5 := Lib.hid (rB5.out.below hN1 (Nat.le_refl _))
              replace ry := Lib.hid (ry.out.below hN1 (Nat.le_refl _))
              have z_X7 := hN1.size; clear hN1
              have rp := Lib.hid (op.rd (by rw [pvL_len]; omega))
              clear op
              have hq := Lib.hid (q1.out (pvL A xs k q) bs _ _ X7 rp.out rB5.out)
              by_cases hE : pvL A xs k q = bs
              · rw [decide_eq_true hE] at hq
                replace hE := Lib.hid hE
                go_wp2_with fail
                refine (hq.out).mono ?_; rintro e X8 ⟨rfl, hN2⟩
                replace hP5 := Lib.hid (Below.then_ hP5.out hN2)
                replace hT5 := Lib.hid (Below.then_ hT5.out hN2)
                replace rX5 := Lib.hid (rX5.out.below hN2 (Nat.le_refl _))
                replace rB5 := Lib.hid (rB5.out.below hN2 (Nat.le_refl _))
                replace ry := Lib.hid (ry.out.below hN2 (Nat.le_refl _))
                replace rp := Lib.hid (rp.out.below hN2 (Nat.le_refl _))
                have z_X8 := hN2.size; clear hN2
                have hcc := Lib.hid (hcmp.out X8 ry.out rX5.out)
                go_wp2_with fail
                refine hcc.out.mono ?_; rintro e w' ⟨⟨c, rfl, hc, hc3⟩, rfl⟩
                have hc0 : c ≤ 0 := hfirst.out xs okx.out hE.out c hc
                replace hc := Lib.hid hc
                replace hc3 := Lib.hid hc3
                go_wp2_with fail
                refine (hA.out X8 hT5.out).mono ?_; rintro e V1 ⟨rfl, hN1⟩
                replace hT5 := Lib.hid (Below.then_ hT5.out hN1)
                clear hN1
                go_wp2
                go_ret
                exact ⟨rfl, hT5.out⟩
              · rw [decide_eq_false hE] at hq
                replace hE := Lib.hid hE
                go_wp2_with fail
                refine (hq.out).mono ?_; rintro e X9 ⟨rfl, hN1⟩
                replace hP5 := Lib.hid (Below.then_ hP5.out hN1)
                replace hT5 := Lib.hid (Below.then_ hT5.out hN1)
                have z_X9 := hN1.size; clear hN1
                go_wp2_with fail
                refine (hA.out X9 hT5.out).mono ?_; rintro e V2 ⟨rfl, hN2⟩
                replace hP5 := Lib.hid (Below.then_ hP5.out hN2)
                replace hT5 := Lib.hid (Below.then_ hT5.out hN2)
                clear hN2
                go_wp2
                go_ret
                exact ⟨rfl, hT5.out⟩
          · have hsp : sp = true := by
              cases sp with
              | true => rfl
              | false => exact absurd hs (sol_there okA.out okb.out okx.out (hbs.out rfl).symm)
            subst hsp
            rw [hs] at eS
            simp only [eS] at c3
            rw [hr] at c2
            clear eS hs hr hAug hbs
            generalize rk A q = r at *
            have er1 : ((r + 1 : Nat) : Int) = (r : Int) + 1 := by omega
            have ene : ((r : Int) + 1 == (r : Int)) = false := by rw [beq_eq_false_iff_ne]; omega
            simp only [er1] at c2
            go_wp2_with fail
            refine (c1.out wr hP5.out).mono ?_; rintro e Y1 ⟨rfl, hN1⟩
            replace hP5 := Lib.hid (Below.then_ hP5.out hN1)
            replace hT5 := Lib.hid (Below.then_ hT5.out hN1)
            replace rX5 := Lib.hid (rX5.out.below hN1 (Nat.le_refl _))
            replace rB5 := Lib.hid (rB5.out.below hN1 (Nat.le_refl _))
            replace rW := Lib.hid (rW.out.below hN1 (Nat.le_refl _))
            have z_Y1 := hN1.size; clear hN1
            go_wp2_with fail
            refine (c2.out _ Y1 rW.out).mono ?_; rintro e Y2 ⟨rfl, hN2⟩
            replace hP5 := Lib.hid (Below.then_ hP5.out hN2)
            replace hT5 := Lib.hid (Below.then_ hT5.out hN2)
            replace rX5 := Lib.hid (rX5.out.below hN2 (Nat.le_refl _))
            replace rB5 := Lib.hid (rB5.out.below hN2 (Nat.le_refl _))
            replace rW := Lib.hid (rW.out.below hN2 (Nat.le_refl _))
            have z_Y2 := hN2.size; clear hN2
            go_wp2_with fail
            refine (c3.out _ Y2 hP5.out rB5.out).mono ?_; rintro e Y3 ⟨vy, rfl, oy, hN3⟩
            replace hP5 := Lib.hid (Below.then_ hP5.out hN3)
            replace hT5 := Lib.hid (Below.then_ hT5.out hN3)
            replace rX5 := Lib.hid (rX5.out.below hN3 (Nat.le_refl _))
            replace rB5 := Lib.hid (rB5.out.below hN3 (Nat.le_refl _))
            replace rW := Lib.hid (rW.out.below hN3 (Nat.le_refl _))
            have z_Y3 := hN3.size; clear hN3
            clear oy c1 c2 c3
            go_wp2_with fail
            refine (hA.out Y3 hT5.out).mono ?_; rintro e V4 ⟨rfl, hN4⟩
            replace hP5 := Lib.hid (Below.then_ hP5.out hN4)
            replace hT5 := Lib.hid (Below.then_ hT5.out hN4)
            replace rX5 := Lib.hid (rX5.out.below hN4 (Nat.le_refl _))
            replace rB5 := Lib.hid (rB5.out.below hN4 (Nat.le_refl _))
            replace rW := Lib.hid (rW.out.below hN4 (Nat.le_refl _))
            clear hN4
            go_wp2
            go_ret
            exact ⟨rfl, hT5.out⟩
end Go.Proofs.YtfljkcmijnhgkaaDoor
