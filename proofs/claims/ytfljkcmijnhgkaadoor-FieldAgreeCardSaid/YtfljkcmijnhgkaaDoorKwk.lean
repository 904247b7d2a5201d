/- FieldAgree: from the sums on. FieldAgree: the loop over the terms. -/
import Derived.Test.YtfljkcmijnhgkaaDoorKwj
import Derived.Test.YtfljkcmijnhgkaaDoorKwi
import Derived.Test.YtfljkcmijnhgkaaDoorKm
import Derived.Test.YtfljkcmijnhgkaaDoorKg
import Derived.Test.YtfljkcmijnhgkaaDoorKn
import Derived.Test.YtfljkcmijnhgkaaDoorKwh
import Derived.Test.YtfljkcmijnhgkaaDoorKu
import Derived.Deep.CutBlock
namespace Go.Proofs.YtfljkcmijnhgkaaDoor
open Go.RowKit Go.Shelf
set_option linter.unusedSimpArgs false
set_option maxRecDepth 1000000 in
set_option maxHeartbeats 12800000 in
theorem ag_tail32 {c0 c1 c2 c3 c4 c5 c6 c7 c8 c9 c10 c11 c12 c15 c16 c18 c19 c20 c21 c24 c26 c30 c31 c32 c33 c34 c35 c36 c37 c38 c39 c40 c41 c42 c43 c44 c45 c46 c47 c48 c49 c50 c51 c52 c53 c54 c55 c56 c57 c58 c59 c60 c61 c62 c63 c64 c65 c66 c67 c68 c69 c70 c71 c72 c73 c74 c75 c76 c77 c78 c79 c80 c81 c82 c83 c84 c85 c86 c87 c88 c89 c90 c91 c92 c93 c94 c95 c96 c97 c98 c99 c100 c101 c102 c103 c104 c105 c106 c107 c108 c109 c110 c111 c112 c113 c114 c115 c116 c117 c118 c119 c120 c121 c122 c123 c124 c125 c126 c127 c128 c129 c130 c131 c132 c133 c134 c135 c136 c137 c138 c139 c140 c141 c142 c143 c144 c145 c146 c147 c148 c149 c150 c151 c152 c153 c154 c155 c156 c157 c158 c159 c160 c161 c162 c163 c164 c165 c166 c167 c168 c169 c170 c171 c172 c173 c174 c175 c176 c177 c178 c179 c180 c181 c182 c183 c184 c185 c186 c187 c188 c189 c190 c191 c192 c193 c194 c195 c196 c197 c198 c199 c200 c201 c202 c203 c204 c205 c206 c207 c208 c209 c210 c211 c212 c213 c214 c215 c216 c217 c218 c219 c220 c221 c222 c223 c224 c225 c226 c227 c228 c229 c230 c231 c232 c233 c234 c235 c236 c237 c238 c239 c240 c241 c242 c243 c244 c245 c246 c247 c248 c249 c250 c251 c252 c253 c254 c255 c256 c257 c258 c259 c260 c261 c262 c263 c264 c265 c266 c267 c268 c269 c270 c271 c272 c273 c274 c275 c276 c277 c278 c279 c280 c281 c282 c283 c284 c285 c286 c287 c288 c289 c290 c291 c292 c293 c294 c295 c296 c297 c298 c299 c300 c301 c302 c303 c304 c305 c306 c307 c308 c309 c310 c311 c312 c313 c314 c315 c316 c317 c318 c319 c320 c321 c322 c323 c324 c325 c326 c327 c328 c329 c330 c331 c332 c333 c334 c335 c336 c337 c338 c339 c340 c341 c342 c343 c344 c345 c346 c347 c348 c349 c350 c351 c352 c353 : Value} (r s : Rule) (m n M F g1 g2 : Nat) (A B A2 B2 : Option Addr) (ca cb ca2 cb2 : Nat) (x y : Int) (sv pv fv : Value) (w E : World) (hok : Hid (okR r m)) (oks : Hid (okR s n)) (hm2 : m ≤ 3) (hn2 : n ≤ 4) (hM : Hid (M = m + n)) (hF2 : Hid (F ≤ 9223372036854775807)) (hx : Hid (x = termK r F)) (hy : Hid (y = termK s F)) (hT : Hid (Below w.heap.size w E)) (hJ : Joins w)
    (rr : Hid (RdR E (.agg #[.slice A m ca, .slice B m cb]) r)) (rs : Hid (RdR E (.agg #[.slice A2 n ca2, .slice B2 n cb2]) s))
    (Y_0 : E.cell? ⟨g1, 0, none⟩ = some (.slice A m ca)) (Y_1 : E.cell? ⟨g1, 1, none⟩ = some (.slice B m cb)) (Z_0 : E.cell? ⟨g2, 0, none⟩ = some (.slice A2 n ca2)) (Z_1 : E.cell? ⟨g2, 1, none⟩ = some (.slice B2 n cb2))
    (l1 : Hid (RdI E sv (joK 0 (firstL r 40) (firstL s 40) 40))) (l2 : Hid (RdI E pv (joK 1 (firstL r 40) (firstL s 40) 40))) (l3 : Hid (RdI E fv (joK 2 (firstL r 40) (firstL s 40) 40))) :
    Code.wp Tryd.prog (agT 32) (bodyPost Tryd.prog Tryd.f8 (fun e w' => e = .returned (.bool true) ∧ Below w.heap.size w w')) ⟨#[c0, c1, c2, c3, c4, c5, c6, c7, c8, c9, c10, c11, c12, .pointer (some ⟨g1, 0, none⟩), .pointer (some ⟨g2, 0, none⟩), c15, c16, .int .i64 (M : Int), c18, c19, c20, c21, .int .i64 (F : Int), .int .i64 x, c24, .int .i64 y, c26, sv, pv, fv, c30, c31, c32, c33, c34, c35, c36, c37, c38, c39, c40, c41, c42, c43, c44, c45, c46, c47, c48, c49, c50, c51, c52, c53, c54, c55, c56, c57, c58, c59, c60, c61, c62, c63, c64, c65, c66, c67, c68, c69, c70, c71, c72, c73, c74, c75, c76, c77, c78, c79, c80, c81, c82, c83, c84, c85, c86, c87, c88, c89, c90, c91, c92, c93, c94, c95, c96, c97, c98, c99, c100, c101, c102, c103, c104, c105, c106, c107, c108, c109, c110, c111, c112, c113, c114, c115, c116, c117, c118, c119, c120, c121, c122, c123, c124, c125, c126, c127, c128, c129, c130, c131, c132, c133, c134, c135, c136, c137, c138, c139, c140, c141, c142, c143, c144, c145, c146, c147, c148, c149, c150, c151, c152, c153, c154, c155, c156, c157, c158, c159, c160, c161, c162, c163, c164, c165, c166, c167, c168, c169, c170, c171, c172, c173, c174, c175, c176, c177, c178, c179, c180, c181, c182, c183, c184, c185, c186, c187, c188, c189, c190, c191, c192, c193, c194, c195, c196, c197, c198, c199, c200, c201, c202, c203, c204, c205, c206, c207, c208, c209, c210, c211, c212, c213, c214, c215, c216, c217, c218, c219, c220, c221, c222, c223, c224, c225, c226, c227, c228, c229, c230, c231, c232, c233, c234, c235, c236, c237, c238, c239, c240, c241, c242, c243, c244, c245, c246, c247, c248, c249, c250, c251, c252, c253, c254, c255, c256, c257, c258, c259, c260, c261, c262, c263, c264, c265, c266, c267, c268, c269, c270, c271, c272, c273, c274, c275, c276, c277, c278, c279, c280, c281, c282, c283, c284, c285, c286, c287, c288, c289, c290, c291, c292, c293, c294, c295, c296, c297, c298, c299, c300, c301, c302, c303, c304, c305, c306, c307, c308, c309, c310, c311, c312, c313, c314, c315, c316, c317, c318, c319, c320, c321, c322, c323, c324, c325, c326, c327, c328, c329, c330, c331, c332, c333, c334, c335, c336, c337, c338, c339, c340, c341, c342, c343, c344, c345, c346, c347, c348, c349, c350, c351, c352, c353], []⟩ E := by
  conv => arg 2; whnf
  conv => arg 4; dsimp only
  let Qz : Exit → Act → World → Prop := bodyPost Tryd.prog Tryd.f8 (fun _ _ => True)
  have hA := Lib.hid (fun W (hW : Below w.heap.size w W) => awake_any W (hJ.below hW))
  have hJW := Lib.hid (fun W (hW : Below w.heap.size w W) => hJ.below hW)
  have hmn : m * n ≤ 12 := by have := Nat.mul_le_mul hm2 hn2; omega
  obtain ⟨u, k1, hj1, oku, ku, hu, mu⟩ := joined_law 0 hok.out oks.out (by omega) (by omega) (show m + n ≤ 12 by omega)
  obtain ⟨v, k2, hj2, okv, kv, hv, mv⟩ := joined_law 1 hok.out oks.out (by omega) (by omega) (show m * n ≤ 12 from hmn)
  obtain ⟨t, k3, hj3, okt, kt, ht, mt⟩ := joined_law 2 hok.out oks.out (by omega) (by omega) (show m + n ≤ 12 by omega)
  replace ku : k1 ≤ m + n := ku
  replace kv : k2 ≤ m * n := kv
  replace kt : k3 ≤ m + n := kt
  have cS := Lib.hid (fun W (h1 : RdR W _ r) (h2 : RdR W _ s) (h3 : Joins W) => hj1 ▸ Sum_any r s (.agg #[.slice A m ca, .slice B m cb]) (.agg #[.slice A2 n ca2, .slice B2 n cb2]) W h1 h2 h3)
  have cT := Lib.hid (fun W (h1 : RdR W _ r) (h2 : RdR W _ s) (h3 : Joins W) => hj2 ▸ Times_any r s (.agg #[.slice A m ca, .slice B m cb]) (.agg #[.slice A2 n ca2, .slice B2 n cb2]) W h1 h2 h3)
  have cF := Lib.hid (fun W (h1 : RdR W _ r) (h2 : RdR W _ s) (h3 : Joins W) => hj3 ▸ Folded_any r s (.agg #[.slice A m ca, .slice B m cb]) (.agg #[.slice A2 n ca2, .slice B2 n cb2]) W h1 h2 h3)
  have cH1 := Lib.hid (fun a W (h1 : RdR W a u) (h2 : RdI W sv _) => has_any u (joK 0 (firstL r 40) (firstL s 40) 40) M a sv W h1 h2 (oku.right (by omega)) (by have := oku.1.1; have := hM.out; omega) (by have := hM.out; omega) (by rw [joK_len]; omega) (by rw [joK_len]; exact joined_first 0 oku hu 40) (short_self oku mu (by omega)))
  have cH2 := Lib.hid (fun a W (h1 : RdR W a v) (h2 : RdI W pv _) => has_any v (joK 1 (firstL r 40) (firstL s 40) 40) (m * n) a pv W h1 h2 (okv.right (by omega)) (by have := okv.1.1; omega) (by omega) (by rw [joK_len]; omega) (by rw [joK_len]; exact joined_first 1 okv hv 40) (short_self okv mv (by omega)))
  have cH3 := Lib.hid (fun a W (h1 : RdR W a t) (h2 : RdI W fv _) => has_any t (joK 2 (firstL r 40) (firstL s 40) 40) M a fv W h1 h2 (okt.right (by omega)) (by have := okt.1.1; have := hM.out; omega) (by have := hM.out; omega) (by rw [joK_len]; omega) (by rw [joK_len]; exact joined_first 2 okt ht 40) (short_self okt mt (by omega)))
  have cZ := Lib.hid (fun a W (h1 : RdR W a u) => Term_any u (F : Int) a W (by have := hF2.out; omega) h1)
  rw [termR_at oku (by omega) (Nat.lt_of_le_of_lt hF2.out (by decide)), term_sum hok.out oks.out oku hu F, ← hx.out, ← hy.out] at cZ
  have cK := Lib.hid (fun a W (h1 : RdR W a v) => Term_any v (F : Int) a W (by have := hF2.out; omega) h1)
  rw [termR_at okv (by omega) (Nat.lt_of_le_of_lt hF2.out (by decide)), term_times hok.out oks.out okv hv F, ← hx.out, ← hy.out] at cK
  have xb : 0 ≤ x ∧ x < 65521 := by rw [hx.out]; exact hok.out.bd F
  have yb : 0 ≤ y ∧ y < 65521 := by rw [hy.out]; exact oks.out.bd F
  have pb := mul_bd xb.1 xb.2 yb.1 yb.2
  have x1 := xb.1
  have x2 := xb.2
  have y1 := yb.1
  have y2 := yb.2
  have q1 : (x + y).tmod 65521 = (x + y) % 65521 := Int.tmod_eq_emod_of_nonneg (by omega)
  have q2 : (x * y).tmod 65521 = (x * y) % 65521 := Int.tmod_eq_emod_of_nonneg (by omega)
  have q3 : IntKind.i64.wrap (x * y) = x * y := IntWalk.i64_in _ ⟨by omega, by omega⟩
  obtain ⟨P, hP⟩ : ∃ P, P = m * n := ⟨_, rfl⟩
  have eP : (m : Int) * (n : Int) = (P : Int) := by rw [hP, Int.natCast_mul]
  have eP2 : IntKind.i64.wrap ((m : Int) * (n : Int)) = (P : Int) := by rw [eP]; exact IntWalk.i64_in _ ⟨by omega, by omega⟩
  rw [← hP] at cH2
  replace hP := Lib.hid hP
  replace oku := Lib.hid oku
  replace okv := Lib.hid okv
  replace okt := Lib.hid okt
  replace ku : k1 ≤ 12 := by omega
  replace kv : k2 ≤ 12 := by omega
  replace kt : k3 ≤ 12 := by omega
  clear hj1 hj2 hj3 hu hv ht mu mv mt hmn eP xb yb hJ
  go_wp2_with fail
  refine (cS.out E rr.out rs.out (hJW.out _ hT.out)).mono ?_; rintro e X1 ⟨v5, rfl, or5, hN1⟩
  replace hT := Lib.hid (Below.then_ hT.out hN1)
  replace rr := Lib.hid (rr.out.below hN1 (Nat.le_refl _))
  replace rs := Lib.hid (rs.out.below hN1 (Nat.le_refl _))
  replace Y_0 := (hN1.cell (World.block_lt_of_cell? _ _ Y_0)).trans Y_0
  replace Y_1 := (hN1.cell (World.block_lt_of_cell? _ _ Y_1)).trans Y_1
  replace Z_0 := (hN1.cell (World.block_lt_of_cell? _ _ Z_0)).trans Z_0
  replace Z_1 := (hN1.cell (World.block_lt_of_cell? _ _ Z_1)).trans Z_1
  replace l1 := Lib.hid (l1.out.below hN1 (Nat.le_refl _))
  replace l2 := Lib.hid (l2.out.below hN1 (Nat.le_refl _))
  replace l3 := Lib.hid (l3.out.below hN1 (Nat.le_refl _))
  have z_X1 := hN1.size; clear hN1
  change OwnR _ _ _ u at or5
  obtain ⟨a5, b5, rfl, oa, ob⟩ := or5
  obtain ⟨A5, c5, rfl⟩ := own_shape oa
  obtain ⟨B5, d5, rfl⟩ := own_shape ob
  have ra5 := Lib.hid (oa.rd (by have := oku.out.1.1; omega))
  have rb5 := Lib.hid (ob.rd (by have := oku.out.2.1; omega))
  rw [oku.out.1.1] at ra5 ⊢
  rw [oku.out.2.1] at rb5 ⊢
  clear oa ob
  obtain ⟨hN2, S5_0, S5_1, S5_z⟩ := box_new X1 (.slice A5 k1 c5) (.slice B5 k1 d5) 49
  replace hT := Lib.hid (Below.then_ hT.out hN2)
  replace rr := Lib.hid (rr.out.below hN2 (Nat.le_refl _))
  replace rs := Lib.hid (rs.out.below hN2 (Nat.le_refl _))
  replace Y_0 := (hN2.cell (World.block_lt_of_cell? _ _ Y_0)).trans Y_0
  replace Y_1 := (hN2.cell (World.block_lt_of_cell? _ _ Y_1)).trans Y_1
  replace Z_0 := (hN2.cell (World.block_lt_of_cell? _ _ Z_0)).trans Z_0
  replace Z_1 := (hN2.cell (World.block_lt_of_cell? _ _ Z_1)).trans Z_1
  replace l1 := Lib.hid (l1.out.below hN2 (Nat.le_refl _))
  replace l2 := Lib.hid (l2.out.below hN2 (Nat.le_refl _))
  replace l3 := Lib.hid (l3.out.below hN2 (Nat.le_refl _))
  replace ra5 := Lib.hid (ra5.out.below hN2 (Nat.le_refl _))
  replace rb5 := Lib.hid (rb5.out.below hN2 (Nat.le_refl _))
  go_wp2_with fail
  generalize X1.alloc (.cells #[.slice A5 k1 c5, .slice B5 k1 d5] 49) = S5 at *
  clear hN2
  refine (cT.out S5 rr.out rs.out (hJW.out _ hT.out)).mono ?_; rintro e X2 ⟨v6, rfl, or6, hN3⟩
  replace hT := Lib.hid (Below.then_ hT.out hN3)
  replace rr := Lib.hid (rr.out.below hN3 (Nat.le_refl _))
  replace rs := Lib.hid (rs.out.below hN3 (Nat.le_refl _))
  replace Y_0 := (hN3.cell (World.block_lt_of_cell? _ _ Y_0)).trans Y_0
  replace Y_1 := (hN3.cell (World.block_lt_of_cell? _ _ Y_1)).trans Y_1
  replace Z_0 := (hN3.cell (World.block_lt_of_cell? _ _ Z_0)).trans Z_0
  replace Z_1 := (hN3.cell (World.block_lt_of_cell? _ _ Z_1)).trans Z_1
  replace l1 := Lib.hid (l1.out.below hN3 (Nat.le_refl _))
  replace l2 := Lib.hid (l2.out.below hN3 (Nat.le_refl _))
  replace l3 := Lib.hid (l3.out.below hN3 (Nat.le_refl _))
  replace ra5 := Lib.hid (ra5.out.below hN3 (Nat.le_refl _))
  replace rb5 := Lib.hid (rb5.out.below hN3 (Nat.le_refl _))
  replace S5_0 := (hN3.cell (World.block_lt_of_cell? _ _ S5_0)).trans S5_0
  replace S5_1 := (hN3.cell (World.block_lt_of_cell? _ _ S5_1)).trans S5_1
  have z_X2 := hN3.size; clear hN3
  change OwnR _ _ _ v at or6
  obtain ⟨a6, b6, rfl, oa, ob⟩ := or6
  obtain ⟨A6, c6, rfl⟩ := own_shape oa
  obtain ⟨B6, d6, rfl⟩ := own_shape ob
  have ra6 := Lib.hid (oa.rd (by have := okv.out.1.1; omega))
  have rb6 := Lib.hid (ob.rd (by have := okv.out.2.1; omega))
  rw [okv.out.1.1] at ra6 ⊢
  rw [okv.out.2.1] at rb6 ⊢
  clear oa ob
  obtain ⟨hN4, S6_0, S6_1, S6_z⟩ := box_new X2 (.slice A6 k2 c6) (.slice B6 k2 d6) 49
  replace hT := Lib.hid (Below.then_ hT.out hN4)
  replace rr := Lib.hid (rr.out.below hN4 (Nat.le_refl _))
  replace rs := Lib.hid (rs.out.below hN4 (Nat.le_refl _))
  replace Y_0 := (hN4.cell (World.block_lt_of_cell? _ _ Y_0)).trans Y_0
  replace Y_1 := (hN4.cell (World.block_lt_of_cell? _ _ Y_1)).trans Y_1
  replace Z_0 := (hN4.cell (World.block_lt_of_cell? _ _ Z_0)).trans Z_0
  replace Z_1 := (hN4.cell (World.block_lt_of_cell? _ _ Z_1)).trans Z_1
  replace l1 := Lib.hid (l1.out.below hN4 (Nat.le_refl _))
  replace l2 := Lib.hid (l2.out.below hN4 (Nat.le_refl _))
  replace l3 := Lib.hid (l3.out.below hN4 (Nat.le_refl _))
  replace ra5 := Lib.hid (ra5.out.below hN4 (Nat.le_refl _))
  replace rb5 := Lib.hid (rb5.out.below hN4 (Nat.le_refl _))
  replace S5_0 := (hN4.cell (World.block_lt_of_cell? _ _ S5_0)).trans S5_0
  replace S5_1 := (hN4.cell (World.block_lt_of_cell? _ _ S5_1)).trans S5_1
  replace ra6 := Lib.hid (ra6.out.below hN4 (Nat.le_refl _))
  replace rb6 := Lib.hid (rb6.out.below hN4 (Nat.le_refl _))
  go_wp2_with fail
  generalize X2.alloc (.cells #[.slice A6 k2 c6, .slice B6 k2 d6] 49) = S6 at *
  clear hN4
  refine (cF.out S6 rr.out rs.out (hJW.out _ hT.out)).mono ?_; rintro e X3 ⟨v7, rfl, or7, hN5⟩
  replace hT := Lib.hid (Below.then_ hT.out hN5)
  replace rr := Lib.hid (rr.out.below hN5 (Nat.le_refl _))
  replace rs := Lib.hid (rs.out.below hN5 (Nat.le_refl _))
  replace Y_0 := (hN5.cell (World.block_lt_of_cell? _ _ Y_0)).trans Y_0
  replace Y_1 := (hN5.cell (World.block_lt_of_cell? _ _ Y_1)).trans Y_1
  replace Z_0 := (hN5.cell (World.block_lt_of_cell? _ _ Z_0)).trans Z_0
  replace Z_1 := (hN5.cell (World.block_lt_of_cell? _ _ Z_1)).trans Z_1
  replace l1 := Lib.hid (l1.out.below hN5 (Nat.le_refl _))
  replace l2 := Lib.hid (l2.out.below hN5 (Nat.le_refl _))
  replace l3 := Lib.hid (l3.out.below hN5 (Nat.le_refl _))
  replace ra5 := Lib.hid (ra5.out.below hN5 (Nat.le_refl _))
  replace rb5 := Lib.hid (rb5.out.below hN5 (Nat.le_refl _))
  replace S5_0 := (hN5.cell (World.block_lt_of_cell? _ _ S5_0)).trans S5_0
  replace S5_1 := (hN5.cell (World.block_lt_of_cell? _ _ S5_1)).trans S5_1
  replace ra6 := Lib.hid (ra6.out.below hN5 (Nat.le_refl _))
  replace rb6 := Lib.hid (rb6.out.below hN5 (Nat.le_refl _))
  replace S6_0 := (hN5.cell (World.block_lt_of_cell? _ _ S6_0)).trans S6_0
  replace S6_1 := (hN5.cell (World.block_lt_of_cell? _ _ S6_1)).trans S6_1
  have z_X3 := hN5.size; clear hN5
  change OwnR _ _ _ t at or7
  obtain ⟨a7, b7, rfl, oa, ob⟩ := or7
  obtain ⟨A7, c7, rfl⟩ := own_shape oa
  obtain ⟨B7, d7, rfl⟩ := own_shape ob
  have ra7 := Lib.hid (oa.rd (by have := okt.out.1.1; omega))
  have rb7 := Lib.hid (ob.rd (by have := okt.out.2.1; omega))
  rw [okt.out.1.1] at ra7 ⊢
  rw [okt.out.2.1] at rb7 ⊢
  clear oa ob
  obtain ⟨hN6, S7_0, S7_1, S7_z⟩ := box_new X3 (.slice A7 k3 c7) (.slice B7 k3 d7) 49
  replace hT := Lib.hid (Below.then_ hT.out hN6)
  replace rr := Lib.hid (rr.out.below hN6 (Nat.le_refl _))
  replace rs := Lib.hid (rs.out.below hN6 (Nat.le_refl _))
  replace Y_0 := (hN6.cell (World.block_lt_of_cell? _ _ Y_0)).trans Y_0
  replace Y_1 := (hN6.cell (World.block_lt_of_cell? _ _ Y_1)).trans Y_1
  replace Z_0 := (hN6.cell (World.block_lt_of_cell? _ _ Z_0)).trans Z_0
  replace Z_1 := (hN6.cell (World.block_lt_of_cell? _ _ Z_1)).trans Z_1
  replace l1 := Lib.hid (l1.out.below hN6 (Nat.le_refl _))
  replace l2 := Lib.hid (l2.out.below hN6 (Nat.le_refl _))
  replace l3 := Lib.hid (l3.out.below hN6 (Nat.le_refl _))
  replace ra5 := Lib.hid (ra5.out.below hN6 (Nat.le_refl _))
  replace rb5 := Lib.hid (rb5.out.below hN6 (Nat.le_refl _))
  replace S5_0 := (hN6.cell (World.block_lt_of_cell? _ _ S5_0)).trans S5_0
  replace S5_1 := (hN6.cell (World.block_lt_of_cell? _ _ S5_1)).trans S5_1
  replace ra6 := Lib.hid (ra6.out.below hN6 (Nat.le_refl _))
  replace rb6 := Lib.hid (rb6.out.below hN6 (Nat.le_refl _))
  replace S6_0 := (hN6.cell (World.block_lt_of_cell? _ _ S6_0)).trans S6_0
  replace S6_1 := (hN6.cell (World.block_lt_of_cell? _ _ S6_1)).trans S6_1
  replace ra7 := Lib.hid (ra7.out.below hN6 (Nat.le_refl _))
  replace rb7 := Lib.hid (rb7.out.below hN6 (Nat.le_refl _))
  go_wp2_with fail
  generalize X3.alloc (.cells #[.slice A7 k3 c7, .slice B7 k3 d7] 49) = S7 at *
  clear hN6
  refine (cH1.out _ S7 ⟨_, _, rfl, ra5.out, rb5.out⟩ l1.out).mono ?_; rintro e X4 ⟨rfl, hN7⟩
  replace hT := Lib.hid (Below.then_ hT.out hN7)
  replace rr := Lib.hid (rr.out.below hN7 (Nat.le_refl _))
  replace rs := Lib.hid (rs.out.below hN7 (Nat.le_refl _))
  replace Y_0 := (hN7.cell (World.block_lt_of_cell? _ _ Y_0)).trans Y_0
  replace Y_1 := (hN7.cell (World.block_lt_of_cell? _ _ Y_1)).trans Y_1
  replace Z_0 := (hN7.cell (World.block_lt_of_cell? _ _ Z_0)).trans Z_0
  replace Z_1 := (hN7.cell (World.block_lt_of_cell? _ _ Z_1)).trans Z_1
  replace l1 := Lib.hid (l1.out.below hN7 (Nat.le_refl _))
  replace l2 := Lib.hid (l2.out.below hN7 (Nat.le_refl _))
  replace l3 := Lib.hid (l3.out.below hN7 (Nat.le_refl _))
  replace ra5 := Lib.hid (ra5.out.below hN7 (Nat.le_refl _))
  replace rb5 := Lib.hid (rb5.out.below hN7 (Nat.le_refl _))
  replace S5_0 := (hN7.cell (World.block_lt_of_cell? _ _ S5_0)).trans S5_0
  replace S5_1 := (hN7.cell (World.block_lt_of_cell? _ _ S5_1)).trans S5_1
  replace ra6 := Lib.hid (ra6.out.below hN7 (Nat.le_refl _))
  replace rb6 := Lib.hid (rb6.out.below hN7 (Nat.le_refl _))
  replace S6_0 := (hN7.cell (World.block_lt_of_cell? _ _ S6_0)).trans S6_0
  replace S6_1 := (hN7.cell (World.block_lt_of_cell? _ _ S6_1)).trans S6_1
  replace ra7 := Lib.hid (ra7.out.below hN7 (Nat.le_refl _))
  replace rb7 := Lib.hid (rb7.out.below hN7 (Nat.le_refl _))
  replace S7_0 := (hN7.cell (World.block_lt_of_cell? _ _ S7_0)).trans S7_0
  replace S7_1 := (hN7.cell (World.block_lt_of_cell? _ _ S7_1)).trans S7_1
  have z_X4 := hN7.size; clear hN7
  go_wp2_with fail
  refine (cH2.out _ X4 ⟨_, _, rfl, ra6.out, rb6.out⟩ l2.out).mono ?_; rintro e X5 ⟨rfl, hN8⟩
  replace hT := Lib.hid (Below.then_ hT.out hN8)
  replace rr := Lib.hid (rr.out.below hN8 (Nat.le_refl _))
  replace rs := Lib.hid (rs.out.below hN8 (Nat.le_refl _))
  replace Y_0 := (hN8.cell (World.block_lt_of_cell? _ _ Y_0)).trans Y_0
  replace Y_1 := (hN8.cell (World.block_lt_of_cell? _ _ Y_1)).trans Y_1
  replace Z_0 := (hN8.cell (World.block_lt_of_cell? _ _ Z_0)).trans Z_0
  replace Z_1 := (hN8.cell (World.block_lt_of_cell? _ _ Z_1)).trans Z_1
  replace l1 := Lib.hid (l1.out.below hN8 (Nat.le_refl _))
  replace l2 := Lib.hid (l2.out.below hN8 (Nat.le_refl _))
  replace l3 := Lib.hid (l3.out.below hN8 (Nat.le_refl _))
  replace ra5 := Lib.hid (ra5.out.below hN8 (Nat.le_refl _))
  replace rb5 := Lib.hid (rb5.out.below hN8 (Nat.le_refl _))
  replace S5_0 := (hN8.cell (World.block_lt_of_cell? _ _ S5_0)).trans S5_0
  replace S5_1 := (hN8.cell (World.block_lt_of_cell? _ _ S5_1)).trans S5_1
  replace ra6 := Lib.hid (ra6.out.below hN8 (Nat.le_refl _))
  replace rb6 := Lib.hid (rb6.out.below hN8 (Nat.le_refl _))
  replace S6_0 := (hN8.cell (World.block_lt_of_cell? _ _ S6_0)).trans S6_0
  replace S6_1 := (hN8.cell (World.block_lt_of_cell? _ _ S6_1)).trans S6_1
  replace ra7 := Lib.hid (ra7.out.below hN8 (Nat.le_refl _))
  replace rb7 := Lib.hid (rb7.out.below hN8 (Nat.le_refl _))
  replace S7_0 := (hN8.cell (World.block_lt_of_cell? _ _ S7_0)).trans S7_0
  replace S7_1 := (hN8.cell (World.block_lt_of_cell? _ _ S7_1)).trans S7_1
  have z_X5 := hN8.size; clear hN8
  go_wp2_with fail
  refine (cH3.out _ X5 ⟨_, _, rfl, ra7.out, rb7.out⟩ l3.out).mono ?_; rintro e X6 ⟨rfl, hN9⟩
  replace hT := Lib.hid (Below.then_ hT.out hN9)
  replace rr := Lib.hid (rr.out.below hN9 (Nat.le_refl _))
  replace rs := Lib.hid (rs.out.below hN9 (Nat.le_refl _))
  replace Y_0 := (hN9.cell (World.block_lt_of_cell? _ _ Y_0)).trans Y_0
  replace Y_1 := (hN9.cell (World.block_lt_of_cell? _ _ Y_1)).trans Y_1
  replace Z_0 := (hN9.cell (World.block_lt_of_cell? _ _ Z_0)).trans Z_0
  replace Z_1 := (hN9.cell (World.block_lt_of_cell? _ _ Z_1)).trans Z_1
  replace l1 := Lib.hid (l1.out.below hN9 (Nat.le_refl _))
  replace l2 := Lib.hid (l2.out.below hN9 (Nat.le_refl _))
  replace l3 := Lib.hid (l3.out.below hN9 (Nat.le_refl _))
  replace ra5 := Lib.hid (ra5.out.below hN9 (Nat.le_refl _))
  replace rb5 := Lib.hid (rb5.out.below hN9 (Nat.le_refl _))
  replace S5_0 := (hN9.cell (World.block_lt_of_cell? _ _ S5_0)).trans S5_0
  replace S5_1 := (hN9.cell (World.block_lt_of_cell? _ _ S5_1)).trans S5_1
  replace ra6 := Lib.hid (ra6.out.below hN9 (Nat.le_refl _))
  replace rb6 := Lib.hid (rb6.out.below hN9 (Nat.le_refl _))
  replace S6_0 := (hN9.cell (World.block_lt_of_cell? _ _ S6_0)).trans S6_0
  replace S6_1 := (hN9.cell (World.block_lt_of_cell? _ _ S6_1)).trans S6_1
  replace ra7 := Lib.hid (ra7.out.below hN9 (Nat.le_refl _))
  replace rb7 := Lib.hid (rb7.out.below hN9 (Nat.le_refl _))
  replace S7_0 := (hN9.cell (World.block_lt_of_cell? _ _ S7_0)).trans S7_0
  replace S7_1 := (hN9.cell (World.block_lt_of_cell? _ _ S7_1)).trans S7_1
  have z_X6 := hN9.size; clear hN9
  go_wp2_with fail
  refine (cZ.out _ X6 ⟨_, _, rfl, ra5.out, rb5.out⟩).mono ?_; rintro e X7 ⟨rfl, hN10⟩
  replace hT := Lib.hid (Below.then_ hT.out hN10)
  replace rr := Lib.hid (rr.out.below hN10 (Nat.le_refl _))
  replace rs := Lib.hid (rs.out.below hN10 (Nat.le_refl _))
  replace Y_0 := (hN10.cell (World.block_lt_of_cell? _ _ Y_0)).trans Y_0
  replace Y_1 := (hN10.cell (World.block_lt_of_cell? _ _ Y_1)).trans Y_1
  replace Z_0 := (hN10.cell (World.block_lt_of_cell? _ _ Z_0)).trans Z_0
  replace Z_1 := (hN10.cell (World.block_lt_of_cell? _ _ Z_1)).trans Z_1
  replace l1 := Lib.hid (l1.out.below hN10 (Nat.le_refl _))
  replace l2 := Lib.hid (l2.out.below hN10 (Nat.le_refl _))
  replace l3 := Lib.hid (l3.out.below hN10 (Nat.le_refl _))
  replace ra5 := Lib.hid (ra5.out.below hN10 (Nat.le_refl _))
  replace rb5 := Lib.hid (rb5.out.below hN10 (Nat.le_refl _))
  replace S5_0 := (hN10.cell (World.block_lt_of_cell? _ _ S5_0)).trans S5_0
  replace S5_1 := (hN10.cell (World.block_lt_of_cell? _ _ S5_1)).trans S5_1
  replace ra6 := Lib.hid (ra6.out.below hN10 (Nat.le_refl _))
  replace rb6 := Lib.hid (rb6.out.below hN10 (Nat.le_refl _))
  replace S6_0 := (hN10.cell (World.block_lt_of_cell? _ _ S6_0)).trans S6_0
  replace S6_1 := (hN10.cell (World.block_lt_of_cell? _ _ S6_1)).trans S6_1
  replace ra7 := Lib.hid (ra7.out.below hN10 (Nat.le_refl _))
  replace rb7 := Lib.hid (rb7.out.below hN10 (Nat.le_refl _))
  replace S7_0 := (hN10.cell (World.block_lt_of_cell? _ _ S7_0)).trans S7_0
  replace S7_1 := (hN10.cell (World.block_lt_of_cell? _ _ S7_1)).trans S7_1
  have z_X7 := hN10.size; clear hN10
  go_wp2_with fail
  refine (cK.out _ X7 ⟨_, _, rfl, ra6.out, rb6.out⟩).mono ?_; rintro e X8 ⟨rfl, hN11⟩
  replace hT := Lib.hid (Below.then_ hT.out hN11)
  replace rr := Lib.hid (rr.out.below hN11 (Nat.le_refl _))
  replace rs := Lib.hid (rs.out.below hN11 (Nat.le_refl _))
  replace Y_0 := (hN11.cell (World.block_lt_of_cell? _ _ Y_0)).trans Y_0
  replace Y_1 := (hN11.cell (World.block_lt_of_cell? _ _ Y_1)).trans Y_1
  replace Z_0 := (hN11.cell (World.block_lt_of_cell? _ _ Z_0)).trans Z_0
  replace Z_1 := (hN11.cell (World.block_lt_of_cell? _ _ Z_1)).trans Z_1
  replace l1 := Lib.hid (l1.out.below hN11 (Nat.le_refl _))
  replace l2 := Lib.hid (l2.out.below hN11 (Nat.le_refl _))
  replace l3 := Lib.hid (l3.out.below hN11 (Nat.le_refl _))
  replace ra5 := Lib.hid (ra5.out.below hN11 (Nat.le_refl _))
  replace rb5 := Lib.hid (rb5.out.below hN11 (Nat.le_refl _))
  replace S5_0 := (hN11.cell (World.block_lt_of_cell? _ _ S5_0)).trans S5_0
  replace S5_1 := (hN11.cell (World.block_lt_of_cell? _ _ S5_1)).trans S5_1
  replace ra6 := Lib.hid (ra6.out.below hN11 (Nat.le_refl _))
  replace rb6 := Lib.hid (rb6.out.below hN11 (Nat.le_refl _))
  replace S6_0 := (hN11.cell (World.block_lt_of_cell? _ _ S6_0)).trans S6_0
  replace S6_1 := (hN11.cell (World.block_lt_of_cell? _ _ S6_1)).trans S6_1
  replace ra7 := Lib.hid (ra7.out.below hN11 (Nat.le_refl _))
  replace rb7 := Lib.hid (rb7.out.below hN11 (Nat.le_refl _))
  replace S7_0 := (hN11.cell (World.block_lt_of_cell? _ _ S7_0)).trans S7_0
  replace S7_1 := (hN11.cell (World.block_lt_of_cell? _ _ S7_1)).trans S7_1
  have z_X8 := hN11.size; clear hN11
  go_wp2_with fail
  refine (hA.out X8 hT.out).mono ?_; rintro e V12 ⟨rfl, hN12⟩
  replace hT := Lib.hid (Below.then_ hT.out hN12)
  replace rr := Lib.hid (rr.out.below hN12 (Nat.le_refl _))
  replace rs := Lib.hid (rs.out.below hN12 (Nat.le_refl _))
  replace Y_0 := (hN12.cell (World.block_lt_of_cell? _ _ Y_0)).trans Y_0
  replace Y_1 := (hN12.cell (World.block_lt_of_cell? _ _ Y_1)).trans Y_1
  replace Z_0 := (hN12.cell (World.block_lt_of_cell? _ _ Z_0)).trans Z_0
  replace Z_1 := (hN12.cell (World.block_lt_of_cell? _ _ Z_1)).trans Z_1
  replace l1 := Lib.hid (l1.out.below hN12 (Nat.le_refl _))
  replace l2 := Lib.hid (l2.out.below hN12 (Nat.le_refl _))
  replace l3 := Lib.hid (l3.out.below hN12 (Nat.le_refl _))
  replace ra5 := Lib.hid (ra5.out.below hN12 (Nat.le_refl _))
  replace rb5 := Lib.hid (rb5.out.below hN12 (Nat.le_refl _))
  replace S5_0 := (hN12.cell (World.block_lt_of_cell? _ _ S5_0)).trans S5_0
  replace S5_1 := (hN12.cell (World.block_lt_of_cell? _ _ S5_1)).trans S5_1
  replace ra6 := Lib.hid (ra6.out.below hN12 (Nat.le_refl _))
  replace rb6 := Lib.hid (rb6.out.below hN12 (Nat.le_refl _))
  replace S6_0 := (hN12.cell (World.block_lt_of_cell? _ _ S6_0)).trans S6_0
  replace S6_1 := (hN12.cell (World.block_lt_of_cell? _ _ S6_1)).trans S6_1
  replace ra7 := Lib.hid (ra7.out.below hN12 (Nat.le_refl _))
  replace rb7 := Lib.hid (rb7.out.below hN12 (Nat.le_refl _))
  replace S7_0 := (hN12.cell (World.block_lt_of_cell? _ _ S7_0)).trans S7_0
  replace S7_1 := (hN12.cell (World.block_lt_of_cell? _ _ S7_1)).trans S7_1
  clear hN12
  go_wp2
  go_ret
  exact ⟨rfl, hT.out⟩
end Go.Proofs.YtfljkcmijnhgkaaDoor

namespace Go.Proofs.YtfljkcmijnhgkaaDoor
open Go.RowKit Go.Shelf
set_option linter.unusedSimpArgs false
set_option maxRecDepth 1000000 in
set_option maxHeartbeats 12800000 in
theorem ag_tail19 {c0 c1 c2 c3 c4 c5 c6 c7 c8 c9 c10 c11 c12 c15 c16 c20 c21 c24 c26 c27 c28 c29 c30 c31 c32 c33 c34 c35 c36 c37 c38 c39 c40 c41 c42 c43 c44 c45 c46 c47 c48 c49 c50 c51 c52 c53 c54 c55 c56 c57 c58 c59 c60 c61 c62 c63 c64 c65 c66 c67 c68 c69 c70 c71 c72 c73 c74 c75 c76 c77 c78 c79 c80 c81 c82 c83 c84 c85 c86 c87 c88 c89 c90 c91 c92 c93 c94 c95 c96 c97 c98 c99 c100 c101 c102 c103 c104 c105 c106 c107 c108 c109 c110 c111 c112 c113 c114 c115 c116 c117 c118 c119 c120 c121 c122 c123 c124 c125 c126 c127 c128 c129 c130 c131 c132 c133 c134 c135 c136 c137 c138 c139 c140 c141 c142 c143 c144 c145 c146 c147 c148 c149 c150 c151 c152 c153 c154 c155 c156 c157 c158 c159 c160 c161 c162 c163 c164 c165 c166 c167 c168 c169 c170 c171 c172 c173 c174 c175 c176 c177 c178 c179 c180 c181 c182 c183 c184 c185 c186 c187 c188 c189 c190 c191 c192 c193 c194 c195 c196 c197 c198 c199 c200 c201 c202 c203 c204 c205 c206 c207 c208 c209 c210 c211 c212 c213 c214 c215 c216 c217 c218 c219 c220 c221 c222 c223 c224 c225 c226 c227 c228 c229 c230 c231 c232 c233 c234 c235 c236 c237 c238 c239 c240 c241 c242 c243 c244 c245 c246 c247 c248 c249 c250 c251 c252 c253 c254 c255 c256 c257 c258 c259 c260 c261 c262 c263 c264 c265 c266 c267 c268 c269 c270 c271 c272 c273 c274 c275 c276 c277 c278 c279 c280 c281 c282 c283 c284 c285 c286 c287 c288 c289 c290 c291 c292 c293 c294 c295 c296 c297 c298 c299 c300 c301 c302 c303 c304 c305 c306 c307 c308 c309 c310 c311 c312 c313 c314 c315 c316 c317 c318 c319 c320 c321 c322 c323 c324 c325 c326 c327 c328 c329 c330 c331 c332 c333 c334 c335 c336 c337 c338 c339 c340 c341 c342 c343 c344 c345 c346 c347 c348 c349 c350 c351 c352 c353 : Value} (r s : Rule) (m n M F g1 g2 : Nat) (A B A2 B2 : Option Addr) (ca cb ca2 cb2 : Nat) (x y : Int) (bA oA cA bB oB cB : Nat) (w E : World) (hok : Hid (okR r m)) (oks : Hid (okR s n)) (hm2 : m ≤ 3) (hn2 : n ≤ 4) (hM : Hid (M = m + n)) (hF2 : Hid (F ≤ 9223372036854775807)) (hx : Hid (x = termK r F)) (hy : Hid (y = termK s F)) (hT : Hid (Below w.heap.size w E)) (hJ : Joins w)
    (rr : Hid (RdR E (.agg #[.slice A m ca, .slice B m cb]) r)) (rs : Hid (RdR E (.agg #[.slice A2 n ca2, .slice B2 n cb2]) s))
    (Y_0 : E.cell? ⟨g1, 0, none⟩ = some (.slice A m ca)) (Y_1 : E.cell? ⟨g1, 1, none⟩ = some (.slice B m cb)) (Z_0 : E.cell? ⟨g2, 0, none⟩ = some (.slice A2 n ca2)) (Z_1 : E.cell? ⟨g2, 1, none⟩ = some (.slice B2 n cb2))
    (lA : Hid (RdI E (.slice (some ⟨bA, oA, none⟩) 40 cA) (firstL r 40))) (lB : Hid (RdI E (.slice (some ⟨bB, oB, none⟩) 40 cB) (firstL s 40))) :
    Code.wp Tryd.prog (agT 19) (bodyPost Tryd.prog Tryd.f8 (fun e w' => e = .returned (.bool true) ∧ Below w.heap.size w w')) ⟨#[c0, c1, c2, c3, c4, c5, c6, c7, c8, c9, c10, c11, c12, .pointer (some ⟨g1, 0, none⟩), .pointer (some ⟨g2, 0, none⟩), c15, c16, .int .i64 (M : Int), .slice (some ⟨bA, oA, none⟩) 40 cA, .slice (some ⟨bB, oB, none⟩) 40 cB, c20, c21, .int .i64 (F : Int), .int .i64 x, c24, .int .i64 y, c26, c27, c28, c29, c30, c31, c32, c33, c34, c35, c36, c37, c38, c39, c40, c41, c42, c43, c44, c45, c46, c47, c48, c49, c50, c51, c52, c53, c54, c55, c56, c57, c58, c59, c60, c61, c62, c63, c64, c65, c66, c67, c68, c69, c70, c71, c72, c73, c74, c75, c76, c77, c78, c79, c80, c81, c82, c83, c84, c85, c86, c87, c88, c89, c90, c91, c92, c93, c94, c95, c96, c97, c98, c99, c100, c101, c102, c103, c104, c105, c106, c107, c108, c109, c110, c111, c112, c113, c114, c115, c116, c117, c118, c119, c120, c121, c122, c123, c124, c125, c126, c127, c128, c129, c130, c131, c132, c133, c134, c135, c136, c137, c138, c139, c140, c141, c142, c143, c144, c145, c146, c147, c148, c149, c150, c151, c152, c153, c154, c155, c156, c157, c158, c159, c160, c161, c162, c163, c164, c165, c166, c167, c168, c169, c170, c171, c172, c173, c174, c175, c176, c177, c178, c179, c180, c181, c182, c183, c184, c185, c186, c187, c188, c189, c190, c191, c192, c193, c194, c195, c196, c197, c198, c199, c200, c201, c202, c203, c204, c205, c206, c207, c208, c209, c210, c211, c212, c213, c214, c215, c216, c217, c218, c219, c220, c221, c222, c223, c224, c225, c226, c227, c228, c229, c230, c231, c232, c233, c234, c235, c236, c237, c238, c239, c240, c241, c242, c243, c244, c245, c246, c247, c248, c249, c250, c251, c252, c253, c254, c255, c256, c257, c258, c259, c260, c261, c262, c263, c264, c265, c266, c267, c268, c269, c270, c271, c272, c273, c274, c275, c276, c277, c278, c279, c280, c281, c282, c283, c284, c285, c286, c287, c288, c289, c290, c291, c292, c293, c294, c295, c296, c297, c298, c299, c300, c301, c302, c303, c304, c305, c306, c307, c308, c309, c310, c311, c312, c313, c314, c315, c316, c317, c318, c319, c320, c321, c322, c323, c324, c325, c326, c327, c328, c329, c330, c331, c332, c333, c334, c335, c336, c337, c338, c339, c340, c341, c342, c343, c344, c345, c346, c347, c348, c349, c350, c351, c352, c353], []⟩ E := by
  conv => arg 2; whnf
  conv => arg 4; dsimp only
  let Qz : Exit → Act → World → Prop := bodyPost Tryd.prog Tryd.f8 (fun _ _ => True)
  have hA := Lib.hid (fun W (hW : Below w.heap.size w W) => awake_any W (hJ.below hW))
  have hJW := Lib.hid (fun W (hW : Below w.heap.size w W) => hJ.below hW)
  clear hA hJW
  obtain ⟨iI, hiI, hI0, hI1, hI2⟩ := info_parts infoI
  obtain ⟨LA, ccA, e9, -, -, hca⟩ := lA.out.open_
  obtain ⟨LB, ccB, f9, -, -, hcb⟩ := lB.out.open_
  rw [firstL_len] at hca hcb
  simp only [Value.slice.injEq] at e9 f9
  obtain ⟨rfl, -, -⟩ := e9
  obtain ⟨rfl, -, -⟩ := f9
  have hba := Lib.hid (getD_bd (firstL_bd hok.out.2.2 40))
  have hbb := Lib.hid (getD_bd (firstL_bd oks.out.2.2 40))
  have done : Hid (∀ (sv pv fv : Value) (W : World), Hid (Below E.heap.size E W) → Hid (ThreeL E.heap.size W sv pv fv (joK 0 (firstL r 40) (firstL s 40) 40) (joK 1 (firstL r 40) (firstL s 40) 40) (joK 2 (firstL r 40) (firstL s 40) 40)) → Hid (RdI W sv (joK 0 (firstL r 40) (firstL s 40) 40)) ∧ Hid (RdI W pv (joK 1 (firstL r 40) (firstL s 40) 40)) ∧ Hid (RdI W fv (joK 2 (firstL r 40) (firstL s 40) 40))) :=
    Lib.hid (fun sv pv fv W _ h => ⟨Lib.hid (h.out.oa.rd (by rw [joK_len]; omega)), Lib.hid (h.out.ob.rd (by rw [joK_len]; omega)), Lib.hid (h.out.oc.rd (by rw [joK_len]; omega))⟩)
  have th0 := Lib.hid (ThreeL.start E)
  have hE := Lib.hid (Below.refl E.heap.size E)
  replace hca := Lib.hid hca
  replace hcb := Lib.hid hcb
  clear lA lB
  generalize hda : firstL r 40 = a at *
  generalize hdb : firstL s 40 = b at *
  replace hda := Lib.hid hda
  replace hdb := Lib.hid hdb
  go_upto_block 2 with fail
  go_cut [27, 28, 29] (fun s1 s2 s3 wx => Hid (Below E.heap.size E wx) ∧ Hid (ThreeL E.heap.size wx s1 s2 s3 (joK 0 a b 40) (joK 1 a b 40) (joK 2 a b 40)))
  case first =>
    go_wp2
    go_loopw [27, 28, 29, 30, 31, 32, 192, 223] (fun s1 s2 s3 _ _ _ ii _ wr => ∃ k : Nat, k ≤ 40 ∧ ii = .int .i64 k ∧ Hid (Below E.heap.size E wr) ∧ Hid (ThreeL E.heap.size wr s1 s2 s3 (joK 0 a b k) (joK 1 a b k) (joK 2 a b k))) (fun _ _ _ _ _ _ ii _ _ => 40 - (intOf ii).toNat)
    case atStart => exact ⟨0, Nat.zero_le _, rfl, hE, th0⟩
    case round =>
      obtain ⟨k, hk, rfl, hB, hth⟩ := hrel
      rename World => wr
      by_cases hkm : k < 40
      · have k1 : (k : Int) < 40 := by omega
        have k0 : (0 : Int) ≤ (k : Int) := by omega
        obtain ⟨A1, d1, rfl⟩ := own_shape hth.out.oa
        obtain ⟨B1, e1, rfl⟩ := own_shape hth.out.ob
        obtain ⟨C1, f1, rfl⟩ := own_shape hth.out.oc
        rw [joK_len, joK_len, joK_len] at hth ⊢
        obtain ⟨b2, o2, eA, hca1⟩ := hca.out k hkm
        simp only [Option.some.injEq, Addr.mk.injEq, and_true] at eA
        obtain ⟨rfl, rfl⟩ := eA
        obtain ⟨b2, o2, eB, hcb1⟩ := hcb.out k hkm
        simp only [Option.some.injEq, Addr.mk.injEq, and_true] at eB
        obtain ⟨rfl, rfl⟩ := eB
        have hcA := Lib.hid (fun W (hW : Below E.heap.size E W) => (hW.cell (World.block_lt_of_cell? _ _ hca1)).trans hca1)
        have hcB := Lib.hid (fun W (hW : Below E.heap.size E W) => (hW.cell (World.block_lt_of_cell? _ _ hcb1)).trans hcb1)
        have xb := hba.out k
        have yb := hbb.out k
        obtain ⟨p, hp⟩ : ∃ p, p = (a.getD k 0 + b.getD k 0) % 65521 := ⟨_, rfl⟩
        obtain ⟨q, hq⟩ : ∃ q, q = a.getD k 0 * b.getD k 0 % 65521 := ⟨_, rfl⟩
        have hmb := mul_bd xb.1 xb.2 yb.1 yb.2
        have W1 := Lib.hid (show IntKind.i64.wrap (a.getD k 0 + b.getD k 0) = a.getD k 0 + b.getD k 0 from IntWalk.i64_in _ ⟨by omega, by omega⟩)
        have W2 := Lib.hid (show IntKind.i64.wrap (a.getD k 0 * b.getD k 0) = a.getD k 0 * b.getD k 0 from IntWalk.i64_in _ ⟨by omega, by omega⟩)
        have W3 := Lib.hid (show (a.getD k 0 + b.getD k 0).tmod 65521 = p by rw [hp]; exact Int.tmod_eq_emod_of_nonneg (by omega))
        have W4 := Lib.hid (show (a.getD k 0 * b.getD k 0).tmod 65521 = q by rw [hq]; exact Int.tmod_eq_emod_of_nonneg hmb.1)
        replace hp := Lib.hid hp
        replace hq := Lib.hid hq
        clear hca1 hcb1 xb yb hmb
        generalize hX : a.getD k 0 = X at *
        generalize hY : b.getD k 0 = Y at *
        replace hX := Lib.hid hX
        replace hY := Lib.hid hY
        go_upto_region 23 with fail
        go_cut [27, 28] (fun s1 s2 wx => ∃ gA cA gB cB, s1 = .slice (some ⟨gA, 0, none⟩) (k + 1) cA ∧ s2 = .slice (some ⟨gB, 0, none⟩) (k + 1) cB ∧ Hid (Below E.heap.size E wx) ∧ Hid (ThreeL E.heap.size wx s1 s2 (.slice C1 k f1) (joK 0 a b (k + 1)) (joK 1 a b (k + 1)) (joK 2 a b k)))
        case first =>
          have HS0 := hB.out.drew
          have th_W0 := Lib.hid (hth.out.kept (Below.refl wr.heap.size wr).drew)
          go_wp2
          refine D_begin (fun w' => Below E.heap.size E w') (fun _ => True) 99 (by kernel_rfl) ?_
          change wpAnyD _ _ _ _ _ _ _ _ _ _ wr.drew
          simp only [List.size_toArray, List.length_cons, List.length_nil, Nat.reduceAdd, Array.replicate_succ, Array.replicate_zero, List.push_toArray, List.append_toArray, List.nil_append, List.cons_append]
          refine D_take (i := 0) (v := ?_) rfl (by kernel_rfl) (by kernel_rfl) (by kernel_rfl) (by kernel_rfl) (fun _ _ _ h => h) (Or.inl ⟨by rfl, ?_⟩) HS0 (fun _ => trivial) ?_
          rotate_left; · intro w1 hw1; have q1 := hcA.out w1 hw1; have q2 := hcB.out w1 hw1; have q3 := W1.out; have q4 := W2.out; have q5 := W3.out; have q6 := W4.out; go_simp; try with_reducible rfl
          try simp only [Act.put, List.getElem_toArray, List.getElem_cons_zero, List.getElem_cons_succ, List.setIfInBounds_toArray, List.set_cons_zero, List.set_cons_succ]
          refine D_take (i := 1) (v := ?_) rfl (by kernel_rfl) (by kernel_rfl) (by kernel_rfl) (by kernel_rfl) (fun _ _ _ h => h) (Or.inl ⟨by rfl, ?_⟩) HS0 (fun _ => trivial) ?_
          rotate_left; · intro w1 hw1; have q1 := hcA.out w1 hw1; have q2 := hcB.out w1 hw1; have q3 := W1.out; have q4 := W2.out; have q5 := W3.out; have q6 := W4.out; go_simp; try with_reducible rfl
          try simp only [Act.put, List.getElem_toArray, List.getElem_cons_zero, List.getElem_cons_succ, List.setIfInBounds_toArray, List.set_cons_zero, List.set_cons_succ]
          refine D_take (i := 2) (v := ?_) rfl (by kernel_rfl) (by kernel_rfl) (by kernel_rfl) (by kernel_rfl) (fun _ _ _ h => h) (Or.inl ⟨by rfl, ?_⟩) HS0 (fun _ => trivial) ?_
          rotate_left; · intro w1 hw1; have q1 := hcA.out w1 hw1; have q2 := hcB.out w1 hw1; have q3 := W1.out; have q4 := W2.out; have q5 := W3.out; have q6 := W4.out; go_simp; try with_reducible rfl
          try simp only [Act.put, List.getElem_toArray, List.getElem_cons_zero, List.getElem_cons_succ, List.setIfInBounds_toArray, List.set_cons_zero, List.set_cons_succ]
          refine D_take (i := 3) (v := ?_) rfl (by kernel_rfl) (by kernel_rfl) (by kernel_rfl) (by kernel_rfl) (fun _ _ _ h => h) (Or.inl ⟨by rfl, ?_⟩) HS0 (fun _ => trivial) ?_
          rotate_left; · intro w1 hw1; have q1 := hcA.out w1 hw1; have q2 := hcB.out w1 hw1; have q3 := W1.out; have q4 := W2.out; have q5 := W3.out; have q6 := W4.out; go_simp; try with_reducible rfl
          try simp only [Act.put, List.getElem_toArray, List.getElem_cons_zero, List.getElem_cons_succ, List.setIfInBounds_toArray, List.set_cons_zero, List.set_cons_succ]
          refine D_take (i := 4) (v := ?_) rfl (by kernel_rfl) (by kernel_rfl) (by kernel_rfl) (by kernel_rfl) (fun _ _ _ h => h) (Or.inl ⟨by rfl, ?_⟩) HS0 (fun _ => trivial) ?_
          rotate_left; · intro w1 hw1; have q1 := hcA.out w1 hw1; have q2 := hcB.out w1 hw1; have q3 := W1.out; have q4 := W2.out; have q5 := W3.out; have q6 := W4.out; go_simp; try with_reducible rfl
          try simp only [Act.put, List.getElem_toArray, List.getElem_cons_zero, List.getElem_cons_succ, List.setIfInBounds_toArray, List.set_cons_zero, List.set_cons_succ]
          refine D_take (i := 5) (v := ?_) rfl (by kernel_rfl) (by kernel_rfl) (by kernel_rfl) (by kernel_rfl) (fun _ _ _ h => h) (Or.inl ⟨by rfl, ?_⟩) HS0 (fun _ => trivial) ?_
          rotate_left; · intro w1 hw1; have q1 := hcA.out w1 hw1; have q2 := hcB.out w1 hw1; have q3 := W1.out; have q4 := W2.out; have q5 := W3.out; have q6 := W4.out; go_simp; try with_reducible rfl
          try simp only [Act.put, List.getElem_toArray, List.getElem_cons_zero, List.getElem_cons_succ, List.setIfInBounds_toArray, List.set_cons_zero, List.set_cons_succ]
          refine D_take (i := 6) (v := ?_) rfl (by kernel_rfl) (by kernel_rfl) (by kernel_rfl) (by kernel_rfl) (fun _ _ _ h => h) (Or.inl ⟨by rfl, ?_⟩) HS0 (fun _ => trivial) ?_
          rotate_left; · intro w1 hw1; have q1 := hcA.out w1 hw1; have q2 := hcB.out w1 hw1; have q3 := W1.out; have q4 := W2.out; have q5 := W3.out; have q6 := W4.out; go_simp; try with_reducible rfl
          try simp only [Act.put, List.getElem_toArray, List.getElem_cons_zero, List.getElem_cons_succ, List.setIfInBounds_toArray, List.set_cons_zero, List.set_cons_succ]
          refine D_take (i := 7) (v := ?_) rfl (by kernel_rfl) (by kernel_rfl) (by kernel_rfl) (by kernel_rfl) (fun _ _ _ h => h) (Or.inl ⟨by rfl, ?_⟩) HS0 (fun _ => trivial) ?_
          rotate_left; · intro w1 hw1; have q1 := hcA.out w1 hw1; have q2 := hcB.out w1 hw1; have q3 := W1.out; have q4 := W2.out; have q5 := W3.out; have q6 := W4.out; go_simp; try with_reducible rfl
          try simp only [Act.put, List.getElem_toArray, List.getElem_cons_zero, List.getElem_cons_succ, List.setIfInBounds_toArray, List.set_cons_zero, List.set_cons_succ]
          refine D_take (i := 8) (v := ?_) rfl (by kernel_rfl) (by kernel_rfl) (by kernel_rfl) (by kernel_rfl) (fun _ _ _ h => h) (Or.inl ⟨by rfl, ?_⟩) HS0 (fun _ => trivial) ?_
          rotate_left; · intro w1 hw1; have q1 := hcA.out w1 hw1; have q2 := hcB.out w1 hw1; have q3 := W1.out; have q4 := W2.out; have q5 := W3.out; have q6 := W4.out; go_simp; try with_reducible rfl
          try simp only [Act.put, List.getElem_toArray, List.getElem_cons_zero, List.getElem_cons_succ, List.setIfInBounds_toArray, List.set_cons_zero, List.set_cons_succ]
          refine D_take (i := 9) (v := ?_) rfl (by kernel_rfl) (by kernel_rfl) (by kernel_rfl) (by kernel_rfl) (fun _ _ _ h => h) (Or.inl ⟨by rfl, ?_⟩) HS0 (fun _ => trivial) ?_
          rotate_left; · intro w1 hw1; have q1 := hcA.out w1 hw1; have q2 := hcB.out w1 hw1; have q3 := W1.out; have q4 := W2.out; have q5 := W3.out; have q6 := W4.out; go_simp; try with_reducible rfl
          try simp only [Act.put, List.getElem_toArray, List.getElem_cons_zero, List.getElem_cons_succ, List.setIfInBounds_toArray, List.set_cons_zero, List.set_cons_succ]
          refine D_take (i := 10) (v := ?_) rfl (by kernel_rfl) (by kernel_rfl) (by kernel_rfl) (by kernel_rfl) (fun _ _ _ h => h) (Or.inl ⟨by rfl, ?_⟩) HS0 (fun _ => trivial) ?_
          rotate_left; · intro w1 hw1; have q1 := hcA.out w1 hw1; have q2 := hcB.out w1 hw1; have q3 := W1.out; have q4 := W2.out; have q5 := W3.out; have q6 := W4.out; go_simp; try with_reducible rfl
          try simp only [Act.put, List.getElem_toArray, List.getElem_cons_zero, List.getElem_cons_succ, List.setIfInBounds_toArray, List.set_cons_zero, List.set_cons_succ]
          refine D_take (i := 13) (v := ?_) rfl (by kernel_rfl) (by kernel_rfl) (by kernel_rfl) (by kernel_rfl) (fun _ _ _ h => h) (Or.inl ⟨by rfl, ?_⟩) HS0 (fun _ => trivial) ?_
          rotate_left; · intro w1 hw1; have q1 := hcA.out w1 hw1; have q2 := hcB.out w1 hw1; have q3 := W1.out; have q4 := W2.out; have q5 := W3.out; have q6 := W4.out; go_simp; try with_reducible rfl
          try simp only [Act.put, List.getElem_toArray, List.getElem_cons_zero, List.getElem_cons_succ, List.setIfInBounds_toArray, List.set_cons_zero, List.set_cons_succ]
          refine D_take (i := 14) (v := ?_) rfl (by kernel_rfl) (by kernel_rfl) (by kernel_rfl) (by kernel_rfl) (fun _ _ _ h => h) (Or.inl ⟨by rfl, ?_⟩) HS0 (fun _ => trivial) ?_
          rotate_left; · intro w1 hw1; have q1 := hcA.out w1 hw1; have q2 := hcB.out w1 hw1; have q3 := W1.out; have q4 := W2.out; have q5 := W3.out; have q6 := W4.out; go_simp; try with_reducible rfl
          try simp only [Act.put, List.getElem_toArray, List.getElem_cons_zero, List.getElem_cons_succ, List.setIfInBounds_toArray, List.set_cons_zero, List.set_cons_succ]
          refine D_take (i := 15) (v := ?_) rfl (by kernel_rfl) (by kernel_rfl) (by kernel_rfl) (by kernel_rfl) (fun _ _ _ h => h) (Or.inl ⟨by rfl, ?_⟩) HS0 (fun _ => trivial) ?_
          rotate_left; · intro w1 hw1; have q1 := hcA.out w1 hw1; have q2 := hcB.out w1 hw1; have q3 := W1.out; have q4 := W2.out; have q5 := W3.out; have q6 := W4.out; go_simp; try with_reducible rfl
          try simp only [Act.put, List.getElem_toArray, List.getElem_cons_zero, List.getElem_cons_succ, List.setIfInBounds_toArray, List.set_cons_zero, List.set_cons_succ]
          refine D_take (i := 16) (v := ?_) rfl (by kernel_rfl) (by kernel_rfl) (by kernel_rfl) (by kernel_rfl) (fun _ _ _ h => h) (Or.inl ⟨by rfl, ?_⟩) HS0 (fun _ => trivial) ?_
          rotate_left; · intro w1 hw1; have q1 := hcA.out w1 hw1; have q2 := hcB.out w1 hw1; have q3 := W1.out; have q4 := W2.out; have q5 := W3.out; have q6 := W4.out; go_simp; try with_reducible rfl
          try simp only [Act.put, List.getElem_toArray, List.getElem_cons_zero, List.getElem_cons_succ, List.setIfInBounds_toArray, List.set_cons_zero, List.set_cons_succ]
          refine D_take (i := 17) (v := ?_) rfl (by kernel_rfl) (by kernel_rfl) (by kernel_rfl) (by kernel_rfl) (fun _ _ _ h => h) (Or.inl ⟨by rfl, ?_⟩) HS0 (fun _ => trivial) ?_
          rotate_left; · intro w1 hw1; have q1 := hcA.out w1 hw1; have q2 := hcB.out w1 hw1; have q3 := W1.out; have q4 := W2.out; have q5 := W3.out; have q6 := W4.out; go_simp; try with_reducible rfl
          try simp only [Act.put, List.getElem_toArray, List.getElem_cons_zero, List.getElem_cons_succ, List.setIfInBounds_toArray, List.set_cons_zero, List.set_cons_succ]
          refine D_take (i := 18) (v := ?_) rfl (by kernel_rfl) (by kernel_rfl) (by kernel_rfl) (by kernel_rfl) (fun _ _ _ h => h) (Or.inl ⟨by rfl, ?_⟩) HS0 (fun _ => trivial) ?_
          rotate_left; · intro w1 hw1; have q1 := hcA.out w1 hw1; have q2 := hcB.out w1 hw1; have q3 := W1.out; have q4 := W2.out; have q5 := W3.out; have q6 := W4.out; go_simp; try with_reducible rfl
          try simp only [Act.put, List.getElem_toArray, List.getElem_cons_zero, List.getElem_cons_succ, List.setIfInBounds_toArray, List.set_cons_zero, List.set_cons_succ]
          refine D_take (i := 19) (v := ?_) rfl (by kernel_rfl) (by kernel_rfl) (by kernel_rfl) (by kernel_rfl) (fun _ _ _ h => h) (Or.inl ⟨by rfl, ?_⟩) HS0 (fun _ => trivial) ?_
          rotate_left; · intro w1 hw1; have q1 := hcA.out w1 hw1; have q2 := hcB.out w1 hw1; have q3 := W1.out; have q4 := W2.out; have q5 := W3.out; have q6 := W4.out; go_simp; try with_reducible rfl
          try simp only [Act.put, List.getElem_toArray, List.getElem_cons_zero, List.getElem_cons_succ, List.setIfInBounds_toArray, List.set_cons_zero, List.set_cons_succ]
          refine D_take (i := 20) (v := ?_) rfl (by kernel_rfl) (by kernel_rfl) (by kernel_rfl) (by kernel_rfl) (fun _ _ _ h => h) (Or.inl ⟨by rfl, ?_⟩) HS0 (fun _ => trivial) ?_
          rotate_left; · intro w1 hw1; have q1 := hcA.out w1 hw1; have q2 := hcB.out w1 hw1; have q3 := W1.out; have q4 := W2.out; have q5 := W3.out; have q6 := W4.out; go_simp; try with_reducible rfl
          try simp only [Act.put, List.getElem_toArray, List.getElem_cons_zero, List.getElem_cons_succ, List.setIfInBounds_toArray, List.set_cons_zero, List.set_cons_succ]
          refine D_take (i := 21) (v := ?_) rfl (by kernel_rfl) (by kernel_rfl) (by kernel_rfl) (by kernel_rfl) (fun _ _ _ h => h) (Or.inl ⟨by rfl, ?_⟩) HS0 (fun _ => trivial) ?_
          rotate_left; · intro w1 hw1; have q1 := hcA.out w1 hw1; have q2 := hcB.out w1 hw1; have q3 := W1.out; have q4 := W2.out; have q5 := W3.out; have q6 := W4.out; go_simp; try with_reducible rfl
          try simp only [Act.put, List.getElem_toArray, List.getElem_cons_zero, List.getElem_cons_succ, List.setIfInBounds_toArray, List.set_cons_zero, List.set_cons_succ]
          refine D_take (i := 22) (v := ?_) rfl (by kernel_rfl) (by kernel_rfl) (by kernel_rfl) (by kernel_rfl) (fun _ _ _ h => h) (Or.inl ⟨by rfl, ?_⟩) HS0 (fun _ => trivial) ?_
          rotate_left; · intro w1 hw1; have q1 := hcA.out w1 hw1; have q2 := hcB.out w1 hw1; have q3 := W1.out; have q4 := W2.out; have q5 := W3.out; have q6 := W4.out; go_simp; try with_reducible rfl
          try simp only [Act.put, List.getElem_toArray, List.getElem_cons_zero, List.getElem_cons_succ, List.setIfInBounds_toArray, List.set_cons_zero, List.set_cons_succ]
          refine D_take (i := 23) (v := ?_) rfl (by kernel_rfl) (by kernel_rfl) (by kernel_rfl) (by kernel_rfl) (fun _ _ _ h => h) (Or.inl ⟨by rfl, ?_⟩) HS0 (fun _ => trivial) ?_
          rotate_left; · intro w1 hw1; have q1 := hcA.out w1 hw1; have q2 := hcB.out w1 hw1; have q3 := W1.out; have q4 := W2.out; have q5 := W3.out; have q6 := W4.out; go_simp; try with_reducible rfl
          try simp only [Act.put, List.getElem_toArray, List.getElem_cons_zero, List.getElem_cons_succ, List.setIfInBounds_toArray, List.set_cons_zero, List.set_cons_succ]
          have t_W0 := Lib.hid HS0
          clear HS0 W1 W2 W3 W4 hB hth
          generalize wr.drew = W0 at th_W0 t_W0 ⊢
          refine D_two (i := 11) (j := 24) (by kernel_rfl) rfl rfl ?_ ?_
          · intro K hK
            rw [if_pos (by rfl)]
            go_simp
            have hb : Below W0.heap.size W0 (W0.alloc (.cells #[.int .i64 p] 3)) := (Below.refl _ _).alloc (Nat.le_refl _) _
            have t_W1 := Lib.hid (t_W0.out.trans (hb.mono t_W0.out.size))
            have th_W1 := Lib.hid (th_W0.out.kept hb)
            have sp : Hid (∀ (j : Nat) u, [.int .i64 p][j]? = some u → (W0.alloc (.cells #[.int .i64 p] 3)).cell? ((⟨W0.heap.size, 0, none⟩ : Addr).add j) = some u) := Lib.hid (cell_one_new W0 _ _)
            have np : Hid (∀ q, Value.ownBlock (.slice A1 k d1) = some q → q < W0.heap.size) := Lib.hid (fun q hq => (World.ownsRow.lt th_W0.out.oa q hq).2)
            refine hK _ _ t_W1.out (fun _ _ => trivial) ?_
            try simp only [Act.put, List.getElem_toArray, List.getElem_cons_zero, List.getElem_cons_succ, List.setIfInBounds_toArray, List.set_cons_zero, List.set_cons_succ]
            clear hK K
            generalize W0.alloc (.cells #[.int .i64 p] 3) = W1 at t_W1 th_W1 sp ⊢
            clear hb
            refine D_two (i := 12) (j := 24) (by kernel_rfl) rfl rfl ?_ ?_
            · intro K hK
              refine step_append_lies _ (by rfl) _ _ _ (by rfl) E.heap.size 3 iI _ 1 8 Tryd.underlying23 hiI hI0 hI1 hI2 rfl (by omega) (.slice A1 k d1) k (ints (joK 0 a b k)) (by rfl) (by have := th_W1.out.oa; unfold OwnI at this; rwa [joK_len] at this) ⟨W0.heap.size, 0, none⟩ 1 1 [.int .i64 p] (by rfl) (by rfl) sp.out (by simp [Value.oneCell']) (by omega) (by unfold maxLen; omega) (by omega) t_W1.out.size W1.heap.size rfl ?_
              intro gA capA W2 hown hgrow hat hlt
              have th_W2 := Lib.hid (th_W1.out.appA (joK_len _ _ _ _) hown hgrow hat)
              have t_W2 := Lib.hid (t_W1.out.grown hgrow t_W1.out.size (fun q hq => (World.ownsRow.lt th_W1.out.oa q hq).1))
              clear hown hgrow hat hlt th_W1 t_W1
              refine hK _ _ t_W2.out (fun _ _ => trivial) ?_
              try simp only [Act.put, List.getElem_toArray, List.getElem_cons_zero, List.getElem_cons_succ, List.setIfInBounds_toArray, List.set_cons_zero, List.set_cons_succ]
              clear hK K
              refine D_one (i := 24) (by kernel_rfl) rfl ?_
              intro K hK
              rw [if_pos (by rfl)]
              go_simp
              have hb : Below W2.heap.size W2 (W2.alloc (.cells #[.int .i64 q] 3)) := (Below.refl _ _).alloc (Nat.le_refl _) _
              have t_W3 := Lib.hid (t_W2.out.trans (hb.mono t_W2.out.size))
              have th_W3 := Lib.hid (th_W2.out.kept hb)
              have sq : Hid (∀ (j : Nat) u, [.int .i64 q][j]? = some u → (W2.alloc (.cells #[.int .i64 q] 3)).cell? ((⟨W2.heap.size, 0, none⟩ : Addr).add j) = some u) := Lib.hid (cell_one_new W2 _ _)
              refine hK _ _ t_W3.out (fun _ _ => trivial) ?_
              try simp only [Act.put, List.getElem_toArray, List.getElem_cons_zero, List.getElem_cons_succ, List.setIfInBounds_toArray, List.set_cons_zero, List.set_cons_succ]
              clear hK K
              generalize W2.alloc (.cells #[.int .i64 q] 3) = W3 at t_W3 th_W3 sq ⊢
              clear hb
              refine D_one (i := 25) (by kernel_rfl) rfl ?_
              intro K hK
              refine step_append_lies _ (by rfl) _ _ _ (by rfl) E.heap.size 3 iI _ 1 8 Tryd.underlying23 hiI hI0 hI1 hI2 rfl (by omega) (.slice B1 k e1) k (ints (joK 1 a b k)) (by rfl) (by have := th_W3.out.ob; unfold OwnI at this; rwa [joK_len] at this) ⟨W2.heap.size, 0, none⟩ 1 1 [.int .i64 q] (by rfl) (by rfl) sq.out (by simp [Value.oneCell']) (by omega) (by unfold maxLen; omega) (by omega) t_W3.out.size W3.heap.size rfl ?_
              intro gB capB W4 hown hgrow hat hlt
              have th_W4 := Lib.hid (th_W3.out.appB (joK_len _ _ _ _) hown hgrow hat)
              have t_W4 := Lib.hid (t_W3.out.grown hgrow t_W3.out.size (fun q hq => (World.ownsRow.lt th_W3.out.ob q hq).1))
              clear hown hgrow hat hlt th_W3 t_W3
              refine hK _ _ t_W4.out (fun _ _ => trivial) ?_
              try simp only [Act.put, List.getElem_toArray, List.getElem_cons_zero, List.getElem_cons_succ, List.setIfInBounds_toArray, List.set_cons_zero, List.set_cons_succ]
              clear hK K
              refine D_take (i := 26) (v := ?_) rfl (by kernel_rfl) (by kernel_rfl) (by kernel_rfl) (by kernel_rfl) (fun _ _ _ h => h) (Or.inl ⟨by rfl, ?_⟩) t_W4.out (fun _ => trivial) ?_
              rotate_left; · intro w1 hw1; go_simp; try with_reducible rfl
              try simp only [Act.put, List.getElem_toArray, List.getElem_cons_zero, List.getElem_cons_succ, List.setIfInBounds_toArray, List.set_cons_zero, List.set_cons_succ]
              refine D_take (i := 27) (v := ?_) rfl (by kernel_rfl) (by kernel_rfl) (by kernel_rfl) (by kernel_rfl) (fun _ _ _ h => h) (Or.inl ⟨by rfl, ?_⟩) t_W4.out (fun _ => trivial) ?_
              rotate_left; · intro w1 hw1; go_simp; try with_reducible rfl
              try simp only [Act.put, List.getElem_toArray, List.getElem_cons_zero, List.getElem_cons_succ, List.setIfInBounds_toArray, List.set_cons_zero, List.set_cons_succ]
              refine D_done (by kernel_rfl) ?_ _
              go_wp2
              have ha := Lib.hid (joK_snoc 0 a b k)
              have hb' := Lib.hid (joK_snoc 1 a b k)
              rw [show p = joinT 0 a b k by rw [hp.out, ← hX.out, ← hY.out]; rfl, show q = joinT 1 a b k by rw [hq.out, ← hX.out, ← hY.out]; rfl, ha.out, hb'.out] at th_W4
              go_meet
              exact ⟨_, _, _, _, rfl, rfl, t_W4, th_W4⟩
            · intro K hK
              rw [if_pos (by rfl)]
              go_simp
              have hb : Below W1.heap.size W1 (W1.alloc (.cells #[.int .i64 q] 3)) := (Below.refl _ _).alloc (Nat.le_refl _) _
              have t_W2 := Lib.hid (t_W1.out.trans (hb.mono t_W1.out.size))
              have th_W2 := Lib.hid (th_W1.out.kept hb)
              have sq : Hid (∀ (j : Nat) u, [.int .i64 q][j]? = some u → (W1.alloc (.cells #[.int .i64 q] 3)).cell? ((⟨W1.heap.size, 0, none⟩ : Addr).add j) = some u) := Lib.hid (cell_one_new W1 _ _)
              have nq : Hid (∀ q, Value.ownBlock (.slice A1 k d1) = some q → q < W1.heap.size) := Lib.hid (fun q hq => (World.ownsRow.lt th_W1.out.oa q hq).2)
              replace sp : Hid (∀ (j : Nat) (u : Value), [Value.int .i64 p][j]? = some u → _) := Lib.hid (fun j u hu => (hb.cell (World.block_lt_of_cell? _ _ (sp.out j u hu))).trans (sp.out j u hu))
              refine hK _ _ t_W2.out (fun _ _ => trivial) ?_
              try simp only [Act.put, List.getElem_toArray, List.getElem_cons_zero, List.getElem_cons_succ, List.setIfInBounds_toArray, List.set_cons_zero, List.set_cons_succ]
              clear hK K
              generalize W1.alloc (.cells #[.int .i64 q] 3) = W2 at t_W2 th_W2 sq sp ⊢
              clear hb
              refine D_one (i := 12) (by kernel_rfl) rfl ?_
              intro K hK
              refine step_append_lies _ (by rfl) _ _ _ (by rfl) E.heap.size 3 iI _ 1 8 Tryd.underlying23 hiI hI0 hI1 hI2 rfl (by omega) (.slice A1 k d1) k (ints (joK 0 a b k)) (by rfl) (by have := th_W2.out.oa; unfold OwnI at this; rwa [joK_len] at this) ⟨W0.heap.size, 0, none⟩ 1 1 [.int .i64 p] (by rfl) (by rfl) sp.out (by simp [Value.oneCell']) (by omega) (by unfold maxLen; omega) (by omega) t_W2.out.size W2.heap.size rfl ?_
              intro gA capA W3 hown hgrow hat hlt
              replace sq : Hid (∀ (j : Nat) (u : Value), [Value.int .i64 q][j]? = some u → _) := Lib.hid (fun j u hu => hgrow.cell (sq.out j u hu) (fun e => by have := nq.out _ e.symm; rw [add_off] at this; exact Nat.lt_irrefl _ this))
              have th_W3 := Lib.hid (th_W2.out.appA (joK_len _ _ _ _) hown hgrow hat)
              have t_W3 := Lib.hid (t_W2.out.grown hgrow t_W2.out.size (fun q hq => (World.ownsRow.lt th_W2.out.oa q hq).1))
              clear hown hgrow hat hlt th_W2 t_W2
              refine hK _ _ t_W3.out (fun _ _ => trivial) ?_
              try simp only [Act.put, List.getElem_toArray, List.getElem_cons_zero, List.getElem_cons_succ, List.setIfInBounds_toArray, List.set_cons_zero, List.set_cons_succ]
              clear hK K
              refine D_one (i := 25) (by kernel_rfl) rfl ?_
              intro K hK
              refine step_append_lies _ (by rfl) _ _ _ (by rfl) E.heap.size 3 iI _ 1 8 Tryd.underlying23 hiI hI0 hI1 hI2 rfl (by omega) (.slice B1 k e1) k (ints (joK 1 a b k)) (by rfl) (by have := th_W3.out.ob; unfold OwnI at this; rwa [joK_len] at this) ⟨W1.heap.size, 0, none⟩ 1 1 [.int .i64 q] (by rfl) (by rfl) sq.out (by simp [Value.oneCell']) (by omega) (by unfold maxLen; omega) (by omega) t_W3.out.size W3.heap.size rfl ?_
              intro gB capB W4 hown hgrow hat hlt
              have th_W4 := Lib.hid (th_W3.out.appB (joK_len _ _ _ _) hown hgrow hat)
              have t_W4 := Lib.hid (t_W3.out.grown hgrow t_W3.out.size (fun q hq => (World.ownsRow.lt th_W3.out.ob q hq).1))
              clear hown hgrow hat hlt th_W3 t_W3
              refine hK _ _ t_W4.out (fun _ _ => trivial) ?_
              try simp only [Act.put, List.getElem_toArray, List.getElem_cons_zero, List.getElem_cons_succ, List.setIfInBounds_toArray, List.set_cons_zero, List.set_cons_succ]
              clear hK K
              refine D_take (i := 26) (v := ?_) rfl (by kernel_rfl) (by kernel_rfl) (by kernel_rfl) (by kernel_rfl) (fun _ _ _ h => h) (Or.inl ⟨by rfl, ?_⟩) t_W4.out (fun _ => trivial) ?_
              rotate_left; · intro w1 hw1; go_simp; try with_reducible rfl
              try simp only [Act.put, List.getElem_toArray, List.getElem_cons_zero, List.getElem_cons_succ, List.setIfInBounds_toArray, List.set_cons_zero, List.set_cons_succ]
              refine D_take (i := 27) (v := ?_) rfl (by kernel_rfl) (by kernel_rfl) (by kernel_rfl) (by kernel_rfl) (fun _ _ _ h => h) (Or.inl ⟨by rfl, ?_⟩) t_W4.out (fun _ => trivial) ?_
              rotate_left; · intro w1 hw1; go_simp; try with_reducible rfl
              try simp only [Act.put, List.getElem_toArray, List.getElem_cons_zero, List.getElem_cons_succ, List.setIfInBounds_toArray, List.set_cons_zero, List.set_cons_succ]
              refine D_done (by kernel_rfl) ?_ _
              go_wp2
              have ha := Lib.hid (joK_snoc 0 a b k)
              have hb' := Lib.hid (joK_snoc 1 a b k)
              rw [show p = joinT 0 a b k by rw [hp.out, ← hX.out, ← hY.out]; rfl, show q = joinT 1 a b k by rw [hq.out, ← hX.out, ← hY.out]; rfl, ha.out, hb'.out] at th_W4
              go_meet
              exact ⟨_, _, _, _, rfl, rfl, t_W4, th_W4⟩
          · intro K hK
            rw [if_pos (by rfl)]
            go_simp
            have hb : Below W0.heap.size W0 (W0.alloc (.cells #[.int .i64 q] 3)) := (Below.refl _ _).alloc (Nat.le_refl _) _
            have t_W1 := Lib.hid (t_W0.out.trans (hb.mono t_W0.out.size))
            have th_W1 := Lib.hid (th_W0.out.kept hb)
            have sq : Hid (∀ (j : Nat) u, [.int .i64 q][j]? = some u → (W0.alloc (.cells #[.int .i64 q] 3)).cell? ((⟨W0.heap.size, 0, none⟩ : Addr).add j) = some u) := Lib.hid (cell_one_new W0 _ _)
            have nq : Hid (∀ q, Value.ownBlock (.slice A1 k d1) = some q → q < W0.heap.size) := Lib.hid (fun q hq => (World.ownsRow.lt th_W0.out.oa q hq).2)
            refine hK _ _ t_W1.out (fun _ _ => trivial) ?_
            try simp only [Act.put, List.getElem_toArray, List.getElem_cons_zero, List.getElem_cons_succ, List.setIfInBounds_toArray, List.set_cons_zero, List.set_cons_succ]
            clear hK K
            generalize W0.alloc (.cells #[.int .i64 q] 3) = W1 at t_W1 th_W1 sq ⊢
            clear hb
            refine D_one (i := 11) (by kernel_rfl) rfl ?_
            intro K hK
            rw [if_pos (by rfl)]
            go_simp
            have hb : Below W1.heap.size W1 (W1.alloc (.cells #[.int .i64 p] 3)) := (Below.refl _ _).alloc (Nat.le_refl _) _
            have t_W2 := Lib.hid (t_W1.out.trans (hb.mono t_W1.out.size))
            have th_W2 := Lib.hid (th_W1.out.kept hb)
            have sp : Hid (∀ (j : Nat) u, [.int .i64 p][j]? = some u → (W1.alloc (.cells #[.int .i64 p] 3)).cell? ((⟨W1.heap.size, 0, none⟩ : Addr).add j) = some u) := Lib.hid (cell_one_new W1 _ _)
            have np : Hid (∀ q, Value.ownBlock (.slice A1 k d1) = some q → q < W1.heap.size) := Lib.hid (fun q hq => (World.ownsRow.lt th_W1.out.oa q hq).2)
            replace sq : Hid (∀ (j : Nat) (u : Value), [Value.int .i64 q][j]? = some u → _) := Lib.hid (fun j u hu => (hb.cell (World.block_lt_of_cell? _ _ (sq.out j u hu))).trans (sq.out j u hu))
            refine hK _ _ t_W2.out (fun _ _ => trivial) ?_
            try simp only [Act.put, List.getElem_toArray, List.getElem_cons_zero, List.getElem_cons_succ, List.setIfInBounds_toArray, List.set_cons_zero, List.set_cons_succ]
            clear hK K
            generalize W1.alloc (.cells #[.int .i64 p] 3) = W2 at t_W2 th_W2 sp sq ⊢
            clear hb
            refine D_one (i := 12) (by kernel_rfl) rfl ?_
            intro K hK
            refine step_append_lies _ (by rfl) _ _ _ (by rfl) E.heap.size 3 iI _ 1 8 Tryd.underlying23 hiI hI0 hI1 hI2 rfl (by omega) (.slice A1 k d1) k (ints (joK 0 a b k)) (by rfl) (by have := th_W2.out.oa; unfold OwnI at this; rwa [joK_len] at this) ⟨W1.heap.size, 0, none⟩ 1 1 [.int .i64 p] (by rfl) (by rfl) sp.out (by simp [Value.oneCell']) (by omega) (by unfold maxLen; omega) (by omega) t_W2.out.size W2.heap.size rfl ?_
            intro gA capA W3 hown hgrow hat hlt
            replace sq : Hid (∀ (j : Nat) (u : Value), [Value.int .i64 q][j]? = some u → _) := Lib.hid (fun j u hu => hgrow.cell (sq.out j u hu) (fun e => by have := nq.out _ e.symm; rw [add_off] at this; exact Nat.lt_irrefl _ this))
            have th_W3 := Lib.hid (th_W2.out.appA (joK_len _ _ _ _) hown hgrow hat)
            have t_W3 := Lib.hid (t_W2.out.grown hgrow t_W2.out.size (fun q hq => (World.ownsRow.lt th_W2.out.oa q hq).1))
            clear hown hgrow hat hlt th_W2 t_W2
            refine hK _ _ t_W3.out (fun _ _ => trivial) ?_
            try simp only [Act.put, List.getElem_toArray, List.getElem_cons_zero, List.getElem_cons_succ, List.setIfInBounds_toArray, List.set_cons_zero, List.set_cons_succ]
            clear hK K
            refine D_one (i := 25) (by kernel_rfl) rfl ?_
            intro K hK
            refine step_append_lies _ (by rfl) _ _ _ (by rfl) E.heap.size 3 iI _ 1 8 Tryd.underlying23 hiI hI0 hI1 hI2 rfl (by omega) (.slice B1 k e1) k (ints (joK 1 a b k)) (by rfl) (by have := th_W3.out.ob; unfold OwnI at this; rwa [joK_len] at this) ⟨W0.heap.size, 0, none⟩ 1 1 [.int .i64 q] (by rfl) (by rfl) sq.out (by simp [Value.oneCell']) (by omega) (by unfold maxLen; omega) (by omega) t_W3.out.size W3.heap.size rfl ?_
            intro gB capB W4 hown hgrow hat hlt
            have th_W4 := Lib.hid (th_W3.out.appB (joK_len _ _ _ _) hown hgrow hat)
            have t_W4 := Lib.hid (t_W3.out.grown hgrow t_W3.out.size (fun q hq => (World.ownsRow.lt th_W3.out.ob q hq).1))
            clear hown hgrow hat hlt th_W3 t_W3
            refine hK _ _ t_W4.out (fun _ _ => trivial) ?_
            try simp only [Act.put, List.getElem_toArray, List.getElem_cons_zero, List.getElem_cons_succ, List.setIfInBounds_toArray, List.set_cons_zero, List.set_cons_succ]
            clear hK K
            refine D_take (i := 26) (v := ?_) rfl (by kernel_rfl) (by kernel_rfl) (by kernel_rfl) (by kernel_rfl) (fun _ _ _ h => h) (Or.inl ⟨by rfl, ?_⟩) t_W4.out (fun _ => trivial) ?_
            rotate_left; · intro w1 hw1; go_simp; try with_reducible rfl
            try simp only [Act.put, List.getElem_toArray, List.getElem_cons_zero, List.getElem_cons_succ, List.setIfInBounds_toArray, List.set_cons_zero, List.set_cons_succ]
            refine D_take (i := 27) (v := ?_) rfl (by kernel_rfl) (by kernel_rfl) (by kernel_rfl) (by kernel_rfl) (fun _ _ _ h => h) (Or.inl ⟨by rfl, ?_⟩) t_W4.out (fun _ => trivial) ?_
            rotate_left; · intro w1 hw1; go_simp; try with_reducible rfl
            try simp only [Act.put, List.getElem_toArray, List.getElem_cons_zero, List.getElem_cons_succ, List.setIfInBounds_toArray, List.set_cons_zero, List.set_cons_succ]
            refine D_done (by kernel_rfl) ?_ _
            go_wp2
            have ha := Lib.hid (joK_snoc 0 a b k)
            have hb' := Lib.hid (joK_snoc 1 a b k)
            rw [show p = joinT 0 a b k by rw [hp.out, ← hX.out, ← hY.out]; rfl, show q = joinT 1 a b k by rw [hq.out, ← hX.out, ← hY.out]; rfl, ha.out, hb'.out] at th_W4
            go_meet
            exact ⟨_, _, _, _, rfl, rfl, t_W4, th_W4⟩
        case rest =>
        obtain ⟨gA, dA, gB, dB, rfl, rfl, hB, hth⟩ := hcut
        rename World => wq
        clear hcA hcB hp hq W1 W2 W3 W4 hX hY
        go_wp2
        go_loopw [31, 32, 223] (fun zz _ jj w2 => ∃ q : Nat, q ≤ k + 1 ∧ jj = .int .i64 q ∧ zz = .int .i64 (psum (fun i => a.getD i 0 * b.getD (k - i) 0 % 65521) q % 65521) ∧ Hid (Below E.heap.size E w2) ∧ Hid (ThreeL E.heap.size w2 (.slice (some ⟨gA, 0, none⟩) (k + 1) dA) (.slice (some ⟨gB, 0, none⟩) (k + 1) dB) (.slice C1 k f1) (joK 0 a b (k + 1)) (joK 1 a b (k + 1)) (joK 2 a b k))) (fun _ _ jj _ => k + 1 - (intOf jj).toNat)
        case atStart => exact ⟨0, Nat.zero_le _, rfl, rfl, hB, hth⟩
        case round =>
          obtain ⟨q, hq, rfl, rfl, hB, hth⟩ := hrel
          rename World => w2
          by_cases hqk : q < k + 1
          · have j1 : (q : Int) < (k : Int) + 1 := by omega
            have j0 : (0 : Int) ≤ (q : Int) := by omega
            obtain ⟨d, hd⟩ : ∃ d, d = k - q := ⟨_, rfl⟩
            have hd4 : d < 40 := by omega
            have hq4 : q < 40 := by omega
            have d0 : (0 : Int) ≤ (d : Int) := by omega
            have d1' : (d : Int) < 40 := by omega
            have q4' : (q : Int) < 40 := by omega
            obtain ⟨b2, o2, eA, hca1⟩ := hca.out q hq4
            simp only [Option.some.injEq, Addr.mk.injEq, and_true] at eA
            obtain ⟨rfl, rfl⟩ := eA
            obtain ⟨b2, o2, eB, hcb1⟩ := hcb.out d hd4
            simp only [Option.some.injEq, Addr.mk.injEq, and_true] at eB
            obtain ⟨rfl, rfl⟩ := eB
            have hcA := Lib.hid (fun W (hW : Below E.heap.size E W) => (hW.cell (World.block_lt_of_cell? _ _ hca1)).trans hca1)
            have hcB := Lib.hid (fun W (hW : Below E.heap.size E W) => (hW.cell (World.block_lt_of_cell? _ _ hcb1)).trans hcb1)
            have xb := hba.out q
            have yb := hbb.out d
            have hmb := mul_bd xb.1 xb.2 yb.1 yb.2
            have hstep : Hid (psum (fun i => a.getD i 0 * b.getD (k - i) 0 % 65521) (q + 1) % 65521 = (psum (fun i => a.getD i 0 * b.getD (k - i) 0 % 65521) q % 65521 + a.getD q 0 * b.getD d 0) % 65521) := Lib.hid (by
              rw [psum, hd]
              generalize psum _ q = T
              generalize a.getD q 0 * b.getD (k - q) 0 = t
              omega)
            have hsb : 0 ≤ psum (fun i => a.getD i 0 * b.getD (k - i) 0 % 65521) q % 65521 ∧ psum (fun i => a.getD i 0 * b.getD (k - i) 0 % 65521) q % 65521 < 65521 := ⟨Int.emod_nonneg _ (by decide), Int.emod_lt_of_pos _ (by decide)⟩
            have V0 := Lib.hid (show IntKind.i64.wrap ((k : Int) - (q : Int)) = (d : Int) by rw [show (k : Int) - (q : Int) = (d : Int) by omega]; exact IntWalk.i64_in _ ⟨by omega, by omega⟩)
            replace hd := Lib.hid hd
            clear hca1 hcb1
            generalize psum (fun i => a.getD i 0 * b.getD (k - i) 0 % 65521) q % 65521 = T at hsb hstep ⊢
            generalize a.getD q 0 = X at *
            generalize b.getD d 0 = Y at *
            have V1 := Lib.hid (show IntKind.i64.wrap (X * Y) = X * Y from IntWalk.i64_in _ ⟨by omega, by omega⟩)
            have V2 := Lib.hid (show IntKind.i64.wrap (T + X * Y) = T + X * Y from IntWalk.i64_in _ ⟨by omega, by omega⟩)
            have V3 := Lib.hid (show (T + X * Y).tmod 65521 = (T + X * Y) % 65521 from Int.tmod_eq_emod_of_nonneg (by omega))
            have HS0 := hB.out.drew
            have hth' := Lib.hid (hth.out.kept (Below.refl w2.heap.size w2).drew)
            clear xb yb hmb hsb
            go_wp2
            refine D_begin (fun w' => Below E.heap.size E w') (fun _ => True) 99 (by kernel_rfl) ?_
            change wpAnyD _ _ _ _ _ _ _ _ _ _ w2.drew
            simp only [List.size_toArray, List.length_cons, List.length_nil, Nat.reduceAdd, Array.replicate_succ, Array.replicate_zero, List.push_toArray, List.append_toArray, List.nil_append, List.cons_append]
            refine D_take (i := 0) (v := ?_) rfl (by kernel_rfl) (by kernel_rfl) (by kernel_rfl) (by kernel_rfl) (fun _ _ _ h => h) (Or.inl ⟨by rfl, ?_⟩) HS0 (fun _ => trivial) ?_
            rotate_left; · intro w1 hw1; have q1 := hcA.out w1 hw1; have q2 := hcB.out w1 hw1; have q3 := V0.out; have q4 := V1.out; have q5 := V2.out; have q6 := V3.out; go_simp; try with_reducible rfl
            try simp only [Act.put, List.getElem_toArray, List.getElem_cons_zero, List.getElem_cons_succ, List.setIfInBounds_toArray, List.set_cons_zero, List.set_cons_succ]
            refine D_take (i := 1) (v := ?_) rfl (by kernel_rfl) (by kernel_rfl) (by kernel_rfl) (by kernel_rfl) (fun _ _ _ h => h) (Or.inl ⟨by rfl, ?_⟩) HS0 (fun _ => trivial) ?_
            rotate_left; · intro w1 hw1; have q1 := hcA.out w1 hw1; have q2 := hcB.out w1 hw1; have q3 := V0.out; have q4 := V1.out; have q5 := V2.out; have q6 := V3.out; go_simp; try with_reducible rfl
            try simp only [Act.put, List.getElem_toArray, List.getElem_cons_zero, List.getElem_cons_succ, List.setIfInBounds_toArray, List.set_cons_zero, List.set_cons_succ]
            refine D_take (i := 2) (v := ?_) rfl (by kernel_rfl) (by kernel_rfl) (by kernel_rfl) (by kernel_rfl) (fun _ _ _ h => h) (Or.inl ⟨by rfl, ?_⟩) HS0 (fun _ => trivial) ?_
            rotate_left; · intro w1 hw1; have q1 := hcA.out w1 hw1; have q2 := hcB.out w1 hw1; have q3 := V0.out; have q4 := V1.out; have q5 := V2.out; have q6 := V3.out; go_simp; try with_reducible rfl
            try simp only [Act.put, List.getElem_toArray, List.getElem_cons_zero, List.getElem_cons_succ, List.setIfInBounds_toArray, List.set_cons_zero, List.set_cons_succ]
            refine D_take (i := 3) (v := ?_) rfl (by kernel_rfl) (by kernel_rfl) (by kernel_rfl) (by kernel_rfl) (fun _ _ _ h => h) (Or.inl ⟨by rfl, ?_⟩) HS0 (fun _ => trivial) ?_
            rotate_left; · intro w1 hw1; have q1 := hcA.out w1 hw1; have q2 := hcB.out w1 hw1; have q3 := V0.out; have q4 := V1.out; have q5 := V2.out; have q6 := V3.out; go_simp; try with_reducible rfl
            try simp only [Act.put, List.getElem_toArray, List.getElem_cons_zero, List.getElem_cons_succ, List.setIfInBounds_toArray, List.set_cons_zero, List.set_cons_succ]
            refine D_take (i := 4) (v := ?_) rfl (by kernel_rfl) (by kernel_rfl) (by kernel_rfl) (by kernel_rfl) (fun _ _ _ h => h) (Or.inl ⟨by rfl, ?_⟩) HS0 (fun _ => trivial) ?_
            rotate_left; · intro w1 hw1; have q1 := hcA.out w1 hw1; have q2 := hcB.out w1 hw1; have q3 := V0.out; have q4 := V1.out; have q5 := V2.out; have q6 := V3.out; go_simp; try with_reducible rfl
            try simp only [Act.put, List.getElem_toArray, List.getElem_cons_zero, List.getElem_cons_succ, List.setIfInBounds_toArray, List.set_cons_zero, List.set_cons_succ]
            refine D_take (i := 5) (v := ?_) rfl (by kernel_rfl) (by kernel_rfl) (by kernel_rfl) (by kernel_rfl) (fun _ _ _ h => h) (Or.inl ⟨by rfl, ?_⟩) HS0 (fun _ => trivial) ?_
            rotate_left; · intro w1 hw1; have q1 := hcA.out w1 hw1; have q2 := hcB.out w1 hw1; have q3 := V0.out; have q4 := V1.out; have q5 := V2.out; have q6 := V3.out; go_simp; try with_reducible rfl
            try simp only [Act.put, List.getElem_toArray, List.getElem_cons_zero, List.getElem_cons_succ, List.setIfInBounds_toArray, List.set_cons_zero, List.set_cons_succ]
            refine D_take (i := 6) (v := ?_) rfl (by kernel_rfl) (by kernel_rfl) (by kernel_rfl) (by kernel_rfl) (fun _ _ _ h => h) (Or.inl ⟨by rfl, ?_⟩) HS0 (fun _ => trivial) ?_
            rotate_left; · intro w1 hw1; have q1 := hcA.out w1 hw1; have q2 := hcB.out w1 hw1; have q3 := V0.out; have q4 := V1.out; have q5 := V2.out; have q6 := V3.out; go_simp; try with_reducible rfl
            try simp only [Act.put, List.getElem_toArray, List.getElem_cons_zero, List.getElem_cons_succ, List.setIfInBounds_toArray, List.set_cons_zero, List.set_cons_succ]
            refine D_take (i := 7) (v := ?_) rfl (by kernel_rfl) (by kernel_rfl) (by kernel_rfl) (by kernel_rfl) (fun _ _ _ h => h) (Or.inl ⟨by rfl, ?_⟩) HS0 (fun _ => trivial) ?_
            rotate_left; · intro w1 hw1; have q1 := hcA.out w1 hw1; have q2 := hcB.out w1 hw1; have q3 := V0.out; have q4 := V1.out; have q5 := V2.out; have q6 := V3.out; go_simp; try with_reducible rfl
            try simp only [Act.put, List.getElem_toArray, List.getElem_cons_zero, List.getElem_cons_succ, List.setIfInBounds_toArray, List.set_cons_zero, List.set_cons_succ]
            refine D_take (i := 8) (v := ?_) rfl (by kernel_rfl) (by kernel_rfl) (by kernel_rfl) (by kernel_rfl) (fun _ _ _ h => h) (Or.inl ⟨by rfl, ?_⟩) HS0 (fun _ => trivial) ?_
            rotate_left; · intro w1 hw1; have q1 := hcA.out w1 hw1; have q2 := hcB.out w1 hw1; have q3 := V0.out; have q4 := V1.out; have q5 := V2.out; have q6 := V3.out; go_simp; try with_reducible rfl
            try simp only [Act.put, List.getElem_toArray, List.getElem_cons_zero, List.getElem_cons_succ, List.setIfInBounds_toArray, List.set_cons_zero, List.set_cons_succ]
            refine D_take (i := 9) (v := ?_) rfl (by kernel_rfl) (by kernel_rfl) (by kernel_rfl) (by kernel_rfl) (fun _ _ _ h => h) (Or.inl ⟨by rfl, ?_⟩) HS0 (fun _ => trivial) ?_
            rotate_left; · intro w1 hw1; have q1 := hcA.out w1 hw1; have q2 := hcB.out w1 hw1; have q3 := V0.out; have q4 := V1.out; have q5 := V2.out; have q6 := V3.out; go_simp; try with_reducible rfl
            try simp only [Act.put, List.getElem_toArray, List.getElem_cons_zero, List.getElem_cons_succ, List.setIfInBounds_toArray, List.set_cons_zero, List.set_cons_succ]
            refine D_take (i := 10) (v := ?_) rfl (by kernel_rfl) (by kernel_rfl) (by kernel_rfl) (by kernel_rfl) (fun _ _ _ h => h) (Or.inl ⟨by rfl, ?_⟩) HS0 (fun _ => trivial) ?_
            rotate_left; · intro w1 hw1; have q1 := hcA.out w1 hw1; have q2 := hcB.out w1 hw1; have q3 := V0.out; have q4 := V1.out; have q5 := V2.out; have q6 := V3.out; go_simp; try with_reducible rfl
            try simp only [Act.put, List.getElem_toArray, List.getElem_cons_zero, List.getElem_cons_succ, List.setIfInBounds_toArray, List.set_cons_zero, List.set_cons_succ]
            refine D_take (i := 11) (v := ?_) rfl (by kernel_rfl) (by kernel_rfl) (by kernel_rfl) (by kernel_rfl) (fun _ _ _ h => h) (Or.inl ⟨by rfl, ?_⟩) HS0 (fun _ => trivial) ?_
            rotate_left; · intro w1 hw1; have q1 := hcA.out w1 hw1; have q2 := hcB.out w1 hw1; have q3 := V0.out; have q4 := V1.out; have q5 := V2.out; have q6 := V3.out; go_simp; try with_reducible rfl
            try simp only [Act.put, List.getElem_toArray, List.getElem_cons_zero, List.getElem_cons_succ, List.setIfInBounds_toArray, List.set_cons_zero, List.set_cons_succ]
            refine D_take (i := 12) (v := ?_) rfl (by kernel_rfl) (by kernel_rfl) (by kernel_rfl) (by kernel_rfl) (fun _ _ _ h => h) (Or.inl ⟨by rfl, ?_⟩) HS0 (fun _ => trivial) ?_
            rotate_left; · intro w1 hw1; have q1 := hcA.out w1 hw1; have q2 := hcB.out w1 hw1; have q3 := V0.out; have q4 := V1.out; have q5 := V2.out; have q6 := V3.out; go_simp; try with_reducible rfl
            try simp only [Act.put, List.getElem_toArray, List.getElem_cons_zero, List.getElem_cons_succ, List.setIfInBounds_toArray, List.set_cons_zero, List.set_cons_succ]
            refine D_take (i := 13) (v := ?_) rfl (by kernel_rfl) (by kernel_rfl) (by kernel_rfl) (by kernel_rfl) (fun _ _ _ h => h) (Or.inl ⟨by rfl, ?_⟩) HS0 (fun _ => trivial) ?_
            rotate_left; · intro w1 hw1; have q1 := hcA.out w1 hw1; have q2 := hcB.out w1 hw1; have q3 := V0.out; have q4 := V1.out; have q5 := V2.out; have q6 := V3.out; go_simp; try with_reducible rfl
            try simp only [Act.put, List.getElem_toArray, List.getElem_cons_zero, List.getElem_cons_succ, List.setIfInBounds_toArray, List.set_cons_zero, List.set_cons_succ]
            refine D_take (i := 14) (v := ?_) rfl (by kernel_rfl) (by kernel_rfl) (by kernel_rfl) (by kernel_rfl) (fun _ _ _ h => h) (Or.inl ⟨by rfl, ?_⟩) HS0 (fun _ => trivial) ?_
            rotate_left; · intro w1 hw1; have q1 := hcA.out w1 hw1; have q2 := hcB.out w1 hw1; have q3 := V0.out; have q4 := V1.out; have q5 := V2.out; have q6 := V3.out; go_simp; try with_reducible rfl
            try simp only [Act.put, List.getElem_toArray, List.getElem_cons_zero, List.getElem_cons_succ, List.setIfInBounds_toArray, List.set_cons_zero, List.set_cons_succ]
            refine D_done (by kernel_rfl) ?_ _
            have hB' := Lib.hid HS0
            clear HS0 hB hth V0 V1 V2 V3 hcA hcB
            generalize w2.drew = w3 at hB' hth' ⊢
            go_wp2
            go_roundw
            case rel => exact ⟨q + 1, by omega, by go_num, by rw [hstep.out], hB', hth'⟩
            case measure => simp [intOf]; omega
          · obtain rfl : q = k + 1 := by omega
            have j1 : ¬ ((k + 1 : Nat) : Int) < (k : Int) + 1 := by omega
            have hsn := Lib.hid (joK_snoc 2 a b k)
            have hnt : psum (fun i => a.getD i 0 * b.getD (k - i) 0 % 65521) (k + 1) % 65521 = joinT 2 a b k := rfl
            rw [hnt]
            generalize joinT 2 a b k = z at *
            clear hnt
            have how := Lib.hid (hth.out.kept ((Below.refl w2.heap.size w2).alloc (Nat.le_refl _) (.cells #[.int .i64 z] 3)))
            have hzw := hB.out.size
            go_wp2_with (at_builtin; (refine wpList_append_lies _ rfl _ _ 23 rfl E.heap.size 3 iI _ 1 8 Tryd.underlying23 hiI hI0 hI1 hI2 rfl (by omega) (.slice C1 k f1) k (ints (joK 2 a b k)) rfl (by have := how.out.oc; unfold OwnI at this; rwa [joK_len] at this) ⟨w2.heap.size, 0, none⟩ 1 1 [.int .i64 z] rfl rfl (cell_one_new w2 _ _) (by simp [Value.oneCell']) (by omega) (by unfold maxLen; omega) (by omega) (by simp; omega) _ rfl ?_); intro g3 cap3 w3 hown hgrow hat hlt)
            have hB1 := Lib.hid ((hB.out.alloc (by omega) (.cells #[.int .i64 z] 3)).grown hgrow (by simp; omega) (fun q hq => (World.ownsRow.lt how.out.oc q hq).1))
            have hfin := Lib.hid (how.out.appC (joK_len _ _ _ _) hown hgrow hat)
            rw [hsn.out] at hfin
            clear hown hgrow hat hlt how hB hth
            go_wp2
            go_roundw
            case rel => exact ⟨k + 1, by omega, by go_num, hB1, hfin⟩
            case measure => simp [intOf]; omega
      · obtain rfl : k = 40 := by omega
        go_wp2
        go_meet
        exact ⟨hB, hth⟩
  case rest =>
  obtain ⟨hE2, hth⟩ := hcut
  obtain ⟨l1, l2, l3⟩ := done.out _ _ _ wc hE2 hth
  obtain rfl := hda.out
  obtain rfl := hdb.out
  rename_i K hK
  refine hK _ _ ?_
  refine ag_tail32 r s m n M F g1 g2 A B A2 B2 ca cb ca2 cb2 x y u27 u28 u29 w wc hok oks hm2 hn2 hM hF2 hx hy (Lib.hid (hT.out.trans (hE2.out.mono hT.out.size))) hJ (Lib.hid (rr.out.below hE2.out (Nat.le_refl _))) (Lib.hid (rs.out.below hE2.out (Nat.le_refl _))) ((hE2.out.cell (World.block_lt_of_cell? _ _ Y_0)).trans Y_0) ((hE2.out.cell (World.block_lt_of_cell? _ _ Y_1)).trans Y_1) ((hE2.out.cell (World.block_lt_of_cell? _ _ Z_0)).trans Z_0) ((hE2.out.cell (World.block_lt_of_cell? _ _ Z_1)).trans Z_1) l1 l2 l3
end Go.Proofs.YtfljkcmijnhgkaaDoor
