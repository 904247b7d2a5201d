/- FieldSmall: limits and errors. -/
import Derived.Test.YtfljkcmijnhgkaaDoorKwf
import Derived.Deep.DeepCutAuto
namespace Go.Proofs.YtfljkcmijnhgkaaDoor
open Go.RowKit Go.Shelf
set_option linter.unusedSimpArgs false
set_option maxRecDepth 1000000 in
set_option maxHeartbeats 12800000 in
theorem sm_tail26 {c0 c3 c4 c5 c6 c7 c8 c9 c10 c11 c12 c13 c14 c15 c16 c17 c18 c19 c20 c21 c22 c23 c24 c25 c26 c27 c28 c29 c30 c31 c32 c33 c34 c35 c36 c37 c38 c39 c40 c41 c42 c43 c44 c45 c46 c47 c48 c49 c50 c51 c52 c53 c54 c55 c56 c57 c58 c59 c60 c61 c62 c63 c64 c65 c66 c67 c68 c69 c70 c71 c72 c73 c74 c75 c76 c77 c78 c79 c80 c81 c82 c83 c84 c85 c86 c87 c88 c89 c90 c91 c92 c93 c94 c95 c96 c97 c98 c99 c100 c101 c102 c103 c104 c105 c106 c107 c108 c109 c110 c111 c112 c113 c114 c115 c116 c117 c118 c119 c120 c121 c122 c123 c124 c125 c126 c127 c128 c129 c130 c131 c132 c133 c134 c135 c136 c137 c138 c139 c140 c141 c142 c143 c144 c145 c146 c147 c148 c149 c150 c151 c152 c153 c154 c155 c156 c157 c158 c159 c160 c161 c162 c163 c164 c165 c166 c167 c168 c169 c170 c171 c172 c173 c174 c175 c176 c177 c178 c179 c180 c181 c182 c183 c184 c185 c186 c187 c188 c189 c190 c191 c192 c193 c194 c195 c196 c197 c198 c199 c200 c201 c202 c203 c204 c205 c206 c207 c208 c209 c210 c211 c212 c213 c214 c215 c216 c217 c218 c219 c220 c221 c222 c223 c224 c225 c226 c227 c228 c229 c230 c231 c232 c233 c234 c235 c236 c237 c238 c239 c240 c241 c242 c243 c244 c245 c246 c247 c248 c249 c250 c251 c252 c253 c254 c255 c256 c257 c258 c259 c260 c261 c262 c263 c264 c265 c266 c267 c268 c269 c270 c271 c272 c273 c274 c275 c276 c277 c278 c279 c280 c281 c282 c283 c284 c285 c286 c287 c288 c289 c290 c291 c292 c293 c294 c295 c296 c297 c298 c299 c300 c301 c302 c303 c304 c305 c306 c307 c308 c309 c310 c311 c312 c313 c314 c315 c316 c317 c318 c319 c320 c321 c322 c323 c324 c325 c326 c327 c328 c329 c330 c331 c332 c333 c334 c335 c336 c337 c338 c339 c340 c341 c342 c343 c344 c345 c346 c347 c348 c349 c350 c351 c352 c353 c354 c355 c356 c357 c358 c359 c360 c361 c362 c363 c364 c365 c366 c367 c368 c369 c370 c371 c372 c373 c374 c375 c376 c377 c378 c379 c380 c381 c382 c383 c384 c385 c386 c387 c388 c389 c390 c391 c392 c393 c394 c395 c396 c397 c398 c399 c400 c401 c402 c403 c404 c405 c406 c407 c408 c409 c410 c411 c412 c413 c414 c415 c416 c417 c418 c419 c420 c421 c422 c423 c424 c425 c426 c427 c428 c429 c430 c431 c432 c433 c434 c435 c436 c437 c438 c439 c440 c441 c442 c443 c444 c445 c446 c447 c448 c449 c450 c451 c452 c453 c454 c455 c456 c457 : Value} (vA : Value) (gF : Nat) (FA FB : Option Addr) (cA cB : Nat) (w E : World) (hBB : Hid (Below w.heap.size w E)) (hJ : Hid (Joins w)) (hbg : Hid (Bag E [(vA, aA)] [(.slice FA 2 cA, [1, 1]), (.slice FB 2 cB, [0, 1])] [(gF, .cells #[.slice FA 2 cA, .slice FB 2 cB] 49 (0, 0))])) :
    Code.wp Tryd.prog (smT 26) (bodyPost Tryd.prog Tryd.f16 (fun e w' => e = .returned (.bool true) ∧ Below w.heap.size w w')) ⟨#[c0, vA, .pointer (some ⟨gF, 0, none⟩), c3, c4, c5, c6, c7, c8, c9, c10, c11, c12, c13, c14, c15, c16, c17, c18, c19, c20, c21, c22, c23, c24, c25, c26, c27, c28, c29, c30, c31, c32, c33, c34, c35, c36, c37, c38, c39, c40, c41, c42, c43, c44, c45, c46, c47, c48, c49, c50, c51, c52, c53, c54, c55, c56, c57, c58, c59, c60, c61, c62, c63, c64, c65, c66, c67, c68, c69, c70, c71, c72, c73, c74, c75, c76, c77, c78, c79, c80, c81, c82, c83, c84, c85, c86, c87, c88, c89, c90, c91, c92, c93, c94, c95, c96, c97, c98, c99, c100, c101, c102, c103, c104, c105, c106, c107, c108, c109, c110, c111, c112, c113, c114, c115, c116, c117, c118, c119, c120, c121, c122, c123, c124, c125, c126, c127, c128, c129, c130, c131, c132, c133, c134, c135, c136, c137, c138, c139, c140, c141, c142, c143, c144, c145, c146, c147, c148, c149, c150, c151, c152, c153, c154, c155, c156, c157, c158, c159, c160, c161, c162, c163, c164, c165, c166, c167, c168, c169, c170, c171, c172, c173, c174, c175, c176, c177, c178, c179, c180, c181, c182, c183, c184, c185, c186, c187, c188, c189, c190, c191, c192, c193, c194, c195, c196, c197, c198, c199, c200, c201, c202, c203, c204, c205, c206, c207, c208, c209, c210, c211, c212, c213, c214, c215, c216, c217, c218, c219, c220, c221, c222, c223, c224, c225, c226, c227, c228, c229, c230, c231, c232, c233, c234, c235, c236, c237, c238, c239, c240, c241, c242, c243, c244, c245, c246, c247, c248, c249, c250, c251, c252, c253, c254, c255, c256, c257, c258, c259, c260, c261, c262, c263, c264, c265, c266, c267, c268, c269, c270, c271, c272, c273, c274, c275, c276, c277, c278, c279, c280, c281, c282, c283, c284, c285, c286, c287, c288, c289, c290, c291, c292, c293, c294, c295, c296, c297, c298, c299, c300, c301, c302, c303, c304, c305, c306, c307, c308, c309, c310, c311, c312, c313, c314, c315, c316, c317, c318, c319, c320, c321, c322, c323, c324, c325, c326, c327, c328, c329, c330, c331, c332, c333, c334, c335, c336, c337, c338, c339, c340, c341, c342, c343, c344, c345, c346, c347, c348, c349, c350, c351, c352, c353, c354, c355, c356, c357, c358, c359, c360, c361, c362, c363, c364, c365, c366, c367, c368, c369, c370, c371, c372, c373, c374, c375, c376, c377, c378, c379, c380, c381, c382, c383, c384, c385, c386, c387, c388, c389, c390, c391, c392, c393, c394, c395, c396, c397, c398, c399, c400, c401, c402, c403, c404, c405, c406, c407, c408, c409, c410, c411, c412, c413, c414, c415, c416, c417, c418, c419, c420, c421, c422, c423, c424, c425, c426, c427, c428, c429, c430, c431, c432, c433, c434, c435, c436, c437, c438, c439, c440, c441, c442, c443, c444, c445, c446, c447, c448, c449, c450, c451, c452, c453, c454, c455, c456, c457], []⟩ E := by
  conv => arg 2; whnf
  conv => arg 4; dsimp only
  let Qz : Exit → Act → World → Prop := bodyPost Tryd.prog Tryd.f16 (fun _ _ => True)
  have hbag := hbg
  clear hbg
  have hR := run_make_row' (P := Tryd.prog) 23 3 _ _ Tryd.underlying23 infoI rfl .i64 .i64 13 (by omega) (by omega)
  rw [show ((13 : Nat) : Int) = 13 from rfl] at hR
  have h0 := OwnI_made E E.heap.size 13 (Nat.le_refl _) (by unfold maxLen; omega)
  obtain ⟨n1, n2⟩ := OwnI.num h0 (k := 12) (by simp)
  have hput := h0.put 12 1
  rw [show (List.replicate 13 (0 : Int)).set 12 1 = wideL from rfl] at hput
  have hB0 : Below E.heap.size E ((E.alloc (.cells (madeCells #[.int .i64 0] 13) 3)).setCell ⟨E.heap.size, 12, none⟩ (.int .i64 1)) := ((Below.refl _ _).alloc (Nat.le_refl _) _).setCell (Nat.le_refl _) _
  have rW := hput.rd (by decide)
  clear h0 hput
  go_wp2_with fail
  rw [World.setCell_alloc_new] at hB0 rW
  generalize E.alloc (.cells ((madeCells #[.int .i64 0] 13).setIfInBounds 12 (.int .i64 1)) 3) = X0 at hB0 rW ⊢
  have hbag' := Lib.hid ((hbag.out.below hB0).addI rW)
  have hBB' := Lib.hid (Below.then_ hBB.out hB0)
  clear hbag hBB hB0 rW n1 n2 hR
  have hbag := hbag'; clear hbag'
  have hBB := hBB'; clear hBB'
  skip
  refine (sm_inv s_inv0 _).mono ?_
  rintro e W1 ⟨rfl, hB⟩
  have hBB' := Lib.hid (Below.then_ hBB.out hB)
  replace hbag : Hid (Bag W1 [(vA, aA)] [(.slice (some ⟨E.heap.size, 0, none⟩) 13 13, wideL), (.slice FA 2 cA, [1, 1]), (.slice FB 2 cB, [0, 1])] [(gF, .cells #[.slice FA 2 cA, .slice FB 2 cB] 49 (0, 0))]) := Lib.hid (hbag.out.below hB)
  clear hB hBB
  have hBB := hBB'; clear hBB'
  go_wp2_with fail
  refine (sm_inv s_invp _).mono ?_
  rintro e W2 ⟨rfl, hB⟩
  have hBB' := Lib.hid (Below.then_ hBB.out hB)
  replace hbag : Hid (Bag W2 [(vA, aA)] [(.slice (some ⟨E.heap.size, 0, none⟩) 13 13, wideL), (.slice FA 2 cA, [1, 1]), (.slice FB 2 cB, [0, 1])] [(gF, .cells #[.slice FA 2 cA, .slice FB 2 cB] 49 (0, 0))]) := Lib.hid (hbag.out.below hB)
  clear hB hBB
  have hBB := hBB'; clear hBB'
  go_wp2_with fail
  refine (sm_pow s_pow1 (by decide) _).mono ?_
  rintro e W3 ⟨rfl, hB⟩
  have hBB' := Lib.hid (Below.then_ hBB.out hB)
  replace hbag : Hid (Bag W3 [(vA, aA)] [(.slice (some ⟨E.heap.size, 0, none⟩) 13 13, wideL), (.slice FA 2 cA, [1, 1]), (.slice FB 2 cB, [0, 1])] [(gF, .cells #[.slice FA 2 cA, .slice FB 2 cB] 49 (0, 0))]) := Lib.hid (hbag.out.below hB)
  clear hB hBB
  have hBB := hBB'; clear hBB'
  obtain ⟨X20, hX20, hBX20, hbag⟩ : ∃ X, ((W3.alloc (.cells #[.int .i64 1] 3)).alloc (.cells #[.slice (some ⟨W3.heap.size, 0, none⟩) 1 1] 23)) = X ∧ Hid (Below w.heap.size w X) ∧ Hid (Bag X [(.slice (some ⟨W3.heap.size + 1, 0, none⟩) 1 1, [[1]]), (vA, aA)] [(.slice (some ⟨E.heap.size, 0, none⟩) 13 13, wideL), (.slice FA 2 cA, [1, 1]), (.slice FB 2 cB, [0, 1])] [(gF, .cells #[.slice FA 2 cA, .slice FB 2 cB] 49 (0, 0))]) := by
    have hg := fun i o h => allocs_get W3 [.cells #[.int .i64 1] 3, .cells #[.slice (some ⟨W3.heap.size, 0, none⟩) 1 1] 23] i o h
    have hlow := allocs_below W3 [.cells #[.int .i64 1] 3, .cells #[.slice (some ⟨W3.heap.size, 0, none⟩) 1 1] 23]
    have h := hbag.out.below hlow
    have h := h.addM (RdM_lit1 (hg 1 _ rfl) (RdI_lit (xs := [1]) (hg 0 _ rfl) rfl (by decide)))
    exact ⟨_, rfl, Lib.hid (Below.then_ hBB.out hlow), Lib.hid h⟩
  replace hX20 := Lib.hid hX20
  go_wp2_with fail
  rw [hX20.out]
  refine (mat_err s_mul (Mul_any aA [[1]] _ _ _ (hbag.out.1 (vA, aA) (by simp)) (hbag.out.1 (.slice (some ⟨W3.heap.size + 1, 0, none⟩) 1 1, [[1]]) (by simp)))).mono ?_
  rintro e W4 ⟨⟨m1, rfl⟩, hB⟩
  have hBB' := Lib.hid (Below.then_ hBX20.out hB)
  replace hbag : Hid (Bag W4 [(.slice (some ⟨W3.heap.size + 1, 0, none⟩) 1 1, [[1]]), (vA, aA)] [(.slice (some ⟨E.heap.size, 0, none⟩) 13 13, wideL), (.slice FA 2 cA, [1, 1]), (.slice FB 2 cB, [0, 1])] [(gF, .cells #[.slice FA 2 cA, .slice FB 2 cB] 49 (0, 0))]) := Lib.hid (hbag.out.below hB)
  clear hB hBB
  clear hX20 hBX20
  have hBB := hBB'; clear hBB'
  obtain ⟨X21, hX21, hBX21, hbag⟩ : ∃ X, ((W4.alloc (.cells #[.int .i64 1, .int .i64 1] 3)).alloc (.cells #[.slice (some ⟨W4.heap.size, 0, none⟩) 2 2] 23)) = X ∧ Hid (Below w.heap.size w X) ∧ Hid (Bag X [(.slice (some ⟨W4.heap.size + 1, 0, none⟩) 1 1, [[1, 1]]), (.slice (some ⟨W3.heap.size + 1, 0, none⟩) 1 1, [[1]]), (vA, aA)] [(.slice (some ⟨E.heap.size, 0, none⟩) 13 13, wideL), (.slice FA 2 cA, [1, 1]), (.slice FB 2 cB, [0, 1])] [(gF, .cells #[.slice FA 2 cA, .slice FB 2 cB] 49 (0, 0))]) := by
    have hg := fun i o h => allocs_get W4 [.cells #[.int .i64 1, .int .i64 1] 3, .cells #[.slice (some ⟨W4.heap.size, 0, none⟩) 2 2] 23] i o h
    have hlow := allocs_below W4 [.cells #[.int .i64 1, .int .i64 1] 3, .cells #[.slice (some ⟨W4.heap.size, 0, none⟩) 2 2] 23]
    have h := hbag.out.below hlow
    have h := h.addM (RdM_lit1 (hg 1 _ rfl) (RdI_lit (xs := [1, 1]) (hg 0 _ rfl) rfl (by decide)))
    exact ⟨_, rfl, Lib.hid (Below.then_ hBB.out hlow), Lib.hid h⟩
  replace hX21 := Lib.hid hX21
  go_wp2_with fail
  rw [hX21.out]
  refine (mat_err s_pw1 (Power_any [[1, 1]] (-1) _ _ (hbag.out.1 (.slice (some ⟨W4.heap.size + 1, 0, none⟩) 1 1, [[1, 1]]) (by simp)) (by decide))).mono ?_
  rintro e W5 ⟨⟨m2, rfl⟩, hB⟩
  have hBB' := Lib.hid (Below.then_ hBX21.out hB)
  replace hbag : Hid (Bag W5 [(.slice (some ⟨W4.heap.size + 1, 0, none⟩) 1 1, [[1, 1]]), (.slice (some ⟨W3.heap.size + 1, 0, none⟩) 1 1, [[1]]), (vA, aA)] [(.slice (some ⟨E.heap.size, 0, none⟩) 13 13, wideL), (.slice FA 2 cA, [1, 1]), (.slice FB 2 cB, [0, 1])] [(gF, .cells #[.slice FA 2 cA, .slice FB 2 cB] 49 (0, 0))]) := Lib.hid (hbag.out.below hB)
  clear hB hBB
  clear hX21 hBX21
  have hBB := hBB'; clear hBB'
  go_wp2_with fail
  refine (mat_err s_pw2 (Power_any aA (-1) _ _ (hbag.out.1 (vA, aA) (by simp)) (by decide))).mono ?_
  rintro e W6 ⟨⟨m3, rfl⟩, hB⟩
  have hBB' := Lib.hid (Below.then_ hBB.out hB)
  replace hbag : Hid (Bag W6 [(.slice (some ⟨W4.heap.size + 1, 0, none⟩) 1 1, [[1, 1]]), (.slice (some ⟨W3.heap.size + 1, 0, none⟩) 1 1, [[1]]), (vA, aA)] [(.slice (some ⟨E.heap.size, 0, none⟩) 13 13, wideL), (.slice FA 2 cA, [1, 1]), (.slice FB 2 cB, [0, 1])] [(gF, .cells #[.slice FA 2 cA, .slice FB 2 cB] 49 (0, 0))]) := Lib.hid (hbag.out.below hB)
  clear hB hBB
  have hBB := hBB'; clear hBB'
  obtain ⟨X22, hX22, hBX22, hbag⟩ : ∃ X, ((((W6.alloc (.cells #[.int .i64 1, .int .i64 1] 3)).alloc (.cells #[.int .i64 2, .int .i64 2] 3)).alloc (.cells #[.slice (some ⟨W6.heap.size, 0, none⟩) 2 2, .slice (some ⟨W6.heap.size + 1, 0, none⟩) 2 2] 23)).alloc (.cells #[.int .i64 3, .int .i64 7] 3)) = X ∧ Hid (Below w.heap.size w X) ∧ Hid (Bag X [(.slice (some ⟨W6.heap.size + 1 + 1, 0, none⟩) 2 2, [[1, 1], [2, 2]]), (.slice (some ⟨W4.heap.size + 1, 0, none⟩) 1 1, [[1, 1]]), (.slice (some ⟨W3.heap.size + 1, 0, none⟩) 1 1, [[1]]), (vA, aA)] [(.slice (some ⟨W6.heap.size + 1 + 1 + 1, 0, none⟩) 2 2, [3, 7]), (.slice (some ⟨E.heap.size, 0, none⟩) 13 13, wideL), (.slice FA 2 cA, [1, 1]), (.slice FB 2 cB, [0, 1])] [(gF, .cells #[.slice FA 2 cA, .slice FB 2 cB] 49 (0, 0))]) := by
    have hg := fun i o h => allocs_get W6 [.cells #[.int .i64 1, .int .i64 1] 3, .cells #[.int .i64 2, .int .i64 2] 3, .cells #[.slice (some ⟨W6.heap.size, 0, none⟩) 2 2, .slice (some ⟨W6.heap.size + 1, 0, none⟩) 2 2] 23, .cells #[.int .i64 3, .int .i64 7] 3] i o h
    have hlow := allocs_below W6 [.cells #[.int .i64 1, .int .i64 1] 3, .cells #[.int .i64 2, .int .i64 2] 3, .cells #[.slice (some ⟨W6.heap.size, 0, none⟩) 2 2, .slice (some ⟨W6.heap.size + 1, 0, none⟩) 2 2] 23, .cells #[.int .i64 3, .int .i64 7] 3]
    have h := hbag.out.below hlow
    have h := h.addM (RdM_lit2 (hg 2 _ rfl) (RdI_lit (xs := [1, 1]) (hg 0 _ rfl) rfl (by decide)) (RdI_lit (xs := [2, 2]) (hg 1 _ rfl) rfl (by decide)))
    have h := h.addI (RdI_lit (xs := [3, 7]) (hg 3 _ rfl) rfl (by decide))
    exact ⟨_, rfl, Lib.hid (Below.then_ hBB.out hlow), Lib.hid h⟩
  replace hX22 := Lib.hid hX22
  go_wp2_with fail
  rw [hX22.out]
  refine (row_err s_sol (Solve_any [[1, 1], [2, 2]] [3, 7] _ _ _ (hbag.out.1 (.slice (some ⟨W6.heap.size + 1 + 1, 0, none⟩) 2 2, [[1, 1], [2, 2]]) (by simp)) (hbag.out.2.1 (.slice (some ⟨W6.heap.size + 1 + 1 + 1, 0, none⟩) 2 2, [3, 7]) (by simp)))).mono ?_
  rintro e W7 ⟨⟨m4, rfl⟩, hB⟩
  have hBB' := Lib.hid (Below.then_ hBX22.out hB)
  replace hbag : Hid (Bag W7 [(.slice (some ⟨W6.heap.size + 1 + 1, 0, none⟩) 2 2, [[1, 1], [2, 2]]), (.slice (some ⟨W4.heap.size + 1, 0, none⟩) 1 1, [[1, 1]]), (.slice (some ⟨W3.heap.size + 1, 0, none⟩) 1 1, [[1]]), (vA, aA)] [(.slice (some ⟨W6.heap.size + 1 + 1 + 1, 0, none⟩) 2 2, [3, 7]), (.slice (some ⟨E.heap.size, 0, none⟩) 13 13, wideL), (.slice FA 2 cA, [1, 1]), (.slice FB 2 cB, [0, 1])] [(gF, .cells #[.slice FA 2 cA, .slice FB 2 cB] 49 (0, 0))]) := Lib.hid (hbag.out.below hB)
  clear hB hBB
  clear hX22 hBX22
  have hBB := hBB'; clear hBB'
  obtain ⟨X3, hX3, hBX3, hbag⟩ : ∃ X, (W7.alloc (.cells #[.int .i64 (-1)] 3)) = X ∧ Hid (Below w.heap.size w X) ∧ Hid (Bag X [(.slice (some ⟨W6.heap.size + 1 + 1, 0, none⟩) 2 2, [[1, 1], [2, 2]]), (.slice (some ⟨W4.heap.size + 1, 0, none⟩) 1 1, [[1, 1]]), (.slice (some ⟨W3.heap.size + 1, 0, none⟩) 1 1, [[1]]), (vA, aA)] [(.slice (some ⟨W7.heap.size, 0, none⟩) 1 1, [-1]), (.slice (some ⟨W6.heap.size + 1 + 1 + 1, 0, none⟩) 2 2, [3, 7]), (.slice (some ⟨E.heap.size, 0, none⟩) 13 13, wideL), (.slice FA 2 cA, [1, 1]), (.slice FB 2 cB, [0, 1])] [(gF, .cells #[.slice FA 2 cA, .slice FB 2 cB] 49 (0, 0))]) := by
    have hg := fun i o h => allocs_get W7 [.cells #[.int .i64 (-1)] 3] i o h
    have hlow := allocs_below W7 [.cells #[.int .i64 (-1)] 3]
    have h := hbag.out.below hlow
    have h := h.addI (RdI_lit (xs := [-1]) (hg 0 _ rfl) rfl (by decide))
    exact ⟨_, rfl, Lib.hid (Below.then_ hBB.out hlow), Lib.hid h⟩
  replace hX3 := Lib.hid hX3
  go_wp2_with fail
  rw [hX3.out]
  refine (row_err s_sol2 (Solve_any aA [-1] _ _ _ (hbag.out.1 (vA, aA) (by simp)) (hbag.out.2.1 (.slice (some ⟨W7.heap.size, 0, none⟩) 1 1, [-1]) (by simp)))).mono ?_
  rintro e W8 ⟨⟨m5, rfl⟩, hB⟩
  have hBB' := Lib.hid (Below.then_ hBX3.out hB)
  replace hbag : Hid (Bag W8 [(.slice (some ⟨W6.heap.size + 1 + 1, 0, none⟩) 2 2, [[1, 1], [2, 2]]), (.slice (some ⟨W4.heap.size + 1, 0, none⟩) 1 1, [[1, 1]]), (.slice (some ⟨W3.heap.size + 1, 0, none⟩) 1 1, [[1]]), (vA, aA)] [(.slice (some ⟨W7.heap.size, 0, none⟩) 1 1, [-1]), (.slice (some ⟨W6.heap.size + 1 + 1 + 1, 0, none⟩) 2 2, [3, 7]), (.slice (some ⟨E.heap.size, 0, none⟩) 13 13, wideL), (.slice FA 2 cA, [1, 1]), (.slice FB 2 cB, [0, 1])] [(gF, .cells #[.slice FA 2 cA, .slice FB 2 cB] 49 (0, 0))]) := Lib.hid (hbag.out.below hB)
  clear hB hBB
  clear hX3 hBX3
  have hBB := hBB'; clear hBB'
  obtain ⟨X24, hX24, hBX24, hbag⟩ : ∃ X, (((W8.alloc (.cells #[.int .i64 1, .int .i64 1] 3)).alloc (.cells #[.int .i64 1, .int .i64 1] 3)).alloc (.cells #[.slice (some ⟨W8.heap.size, 0, none⟩) 2 2, .slice (some ⟨W8.heap.size + 1, 0, none⟩) 2 2] 23)) = X ∧ Hid (Below w.heap.size w X) ∧ Hid (Bag X [(.slice (some ⟨W8.heap.size + 1 + 1, 0, none⟩) 2 2, [[1, 1], [1, 1]]), (.slice (some ⟨W6.heap.size + 1 + 1, 0, none⟩) 2 2, [[1, 1], [2, 2]]), (.slice (some ⟨W4.heap.size + 1, 0, none⟩) 1 1, [[1, 1]]), (.slice (some ⟨W3.heap.size + 1, 0, none⟩) 1 1, [[1]]), (vA, aA)] [(.slice (some ⟨W7.heap.size, 0, none⟩) 1 1, [-1]), (.slice (some ⟨W6.heap.size + 1 + 1 + 1, 0, none⟩) 2 2, [3, 7]), (.slice (some ⟨E.heap.size, 0, none⟩) 13 13, wideL), (.slice FA 2 cA, [1, 1]), (.slice FB 2 cB, [0, 1])] [(gF, .cells #[.slice FA 2 cA, .slice FB 2 cB] 49 (0, 0))]) := by
    have hg := fun i o h => allocs_get W8 [.cells #[.int .i64 1, .int .i64 1] 3, .cells #[.int .i64 1, .int .i64 1] 3, .cells #[.slice (some ⟨W8.heap.size, 0, none⟩) 2 2, .slice (some ⟨W8.heap.size + 1, 0, none⟩) 2 2] 23] i o h
    have hlow := allocs_below W8 [.cells #[.int .i64 1, .int .i64 1] 3, .cells #[.int .i64 1, .int .i64 1] 3, .cells #[.slice (some ⟨W8.heap.size, 0, none⟩) 2 2, .slice (some ⟨W8.heap.size + 1, 0, none⟩) 2 2] 23]
    have h := hbag.out.below hlow
    have h := h.addM (RdM_lit2 (hg 2 _ rfl) (RdI_lit (xs := [1, 1]) (hg 0 _ rfl) rfl (by decide)) (RdI_lit (xs := [1, 1]) (hg 1 _ rfl) rfl (by decide)))
    exact ⟨_, rfl, Lib.hid (Below.then_ hBB.out hlow), Lib.hid h⟩
  replace hX24 := Lib.hid hX24
  go_wp2_with fail
  rw [hX24.out]
  refine (fresh_err s_invm (Inverse_any [[1, 1], [1, 1]] _ _ (hbag.out.1 (.slice (some ⟨W8.heap.size + 1 + 1, 0, none⟩) 2 2, [[1, 1], [1, 1]]) (by simp)))).mono ?_
  rintro e W9 ⟨⟨m6, rfl⟩, hB⟩
  have hBB' := Lib.hid (Below.then_ hBX24.out hB)
  replace hbag : Hid (Bag W9 [(.slice (some ⟨W8.heap.size + 1 + 1, 0, none⟩) 2 2, [[1, 1], [1, 1]]), (.slice (some ⟨W6.heap.size + 1 + 1, 0, none⟩) 2 2, [[1, 1], [2, 2]]), (.slice (some ⟨W4.heap.size + 1, 0, none⟩) 1 1, [[1, 1]]), (.slice (some ⟨W3.heap.size + 1, 0, none⟩) 1 1, [[1]]), (vA, aA)] [(.slice (some ⟨W7.heap.size, 0, none⟩) 1 1, [-1]), (.slice (some ⟨W6.heap.size + 1 + 1 + 1, 0, none⟩) 2 2, [3, 7]), (.slice (some ⟨E.heap.size, 0, none⟩) 13 13, wideL), (.slice FA 2 cA, [1, 1]), (.slice FB 2 cB, [0, 1])] [(gF, .cells #[.slice FA 2 cA, .slice FB 2 cB] 49 (0, 0))]) := Lib.hid (hbag.out.below hB)
  clear hB hBB
  clear hX24 hBX24
  have hBB := hBB'; clear hBB'
  go_wp2_with fail
  refine (mat_err s_mat0 (Matrix_any ⟨[], []⟩ _ _ ⟨_, _, rfl, RdI_nil _, RdI_nil _⟩)).mono ?_
  rintro e W10 ⟨⟨m7, rfl⟩, hB⟩
  have hBB' := Lib.hid (Below.then_ hBB.out hB)
  replace hbag : Hid (Bag W10 [(.slice (some ⟨W8.heap.size + 1 + 1, 0, none⟩) 2 2, [[1, 1], [1, 1]]), (.slice (some ⟨W6.heap.size + 1 + 1, 0, none⟩) 2 2, [[1, 1], [2, 2]]), (.slice (some ⟨W4.heap.size + 1, 0, none⟩) 1 1, [[1, 1]]), (.slice (some ⟨W3.heap.size + 1, 0, none⟩) 1 1, [[1]]), (vA, aA)] [(.slice (some ⟨W7.heap.size, 0, none⟩) 1 1, [-1]), (.slice (some ⟨W6.heap.size + 1 + 1 + 1, 0, none⟩) 2 2, [3, 7]), (.slice (some ⟨E.heap.size, 0, none⟩) 13 13, wideL), (.slice FA 2 cA, [1, 1]), (.slice FB 2 cB, [0, 1])] [(gF, .cells #[.slice FA 2 cA, .slice FB 2 cB] 49 (0, 0))]) := Lib.hid (hbag.out.below hB)
  clear hB hBB
  have hBB := hBB'; clear hBB'
  go_wp2_with fail
  refine (rule_err s_wide (Least_any wideL _ _ (hbag.out.2.1 (.slice (some ⟨E.heap.size, 0, none⟩) 13 13, wideL) (by simp)))).mono ?_
  rintro e W11 ⟨⟨A1, n1, c1, B1, k1, d1, rfl⟩, hB⟩
  have hBB' := Lib.hid (Below.then_ hBB.out hB)
  replace hbag : Hid (Bag W11 [(.slice (some ⟨W8.heap.size + 1 + 1, 0, none⟩) 2 2, [[1, 1], [1, 1]]), (.slice (some ⟨W6.heap.size + 1 + 1, 0, none⟩) 2 2, [[1, 1], [2, 2]]), (.slice (some ⟨W4.heap.size + 1, 0, none⟩) 1 1, [[1, 1]]), (.slice (some ⟨W3.heap.size + 1, 0, none⟩) 1 1, [[1]]), (vA, aA)] [(.slice (some ⟨W7.heap.size, 0, none⟩) 1 1, [-1]), (.slice (some ⟨W6.heap.size + 1 + 1 + 1, 0, none⟩) 2 2, [3, 7]), (.slice (some ⟨E.heap.size, 0, none⟩) 13 13, wideL), (.slice FA 2 cA, [1, 1]), (.slice FB 2 cB, [0, 1])] [(gF, .cells #[.slice FA 2 cA, .slice FB 2 cB] 49 (0, 0))]) := Lib.hid (hbag.out.below hB)
  clear hB hBB
  have hBB := hBB'; clear hBB'
  have hR := run_make_row' (P := Tryd.prog) 23 3 _ _ Tryd.underlying23 infoI rfl .i64 .i64 65 (by omega) (by omega)
  rw [show ((65 : Nat) : Int) = 65 from rfl] at hR
  obtain ⟨X25, hX25, hBX25, hbag⟩ : ∃ X, ((W11.alloc (.cells #[.slice A1 n1 c1, .slice B1 k1 d1] 49)).alloc (.cells (madeCells #[.int .i64 0] 65) 3)) = X ∧ Hid (Below w.heap.size w X) ∧ Hid (Bag X [(.slice (some ⟨W8.heap.size + 1 + 1, 0, none⟩) 2 2, [[1, 1], [1, 1]]), (.slice (some ⟨W6.heap.size + 1 + 1, 0, none⟩) 2 2, [[1, 1], [2, 2]]), (.slice (some ⟨W4.heap.size + 1, 0, none⟩) 1 1, [[1, 1]]), (.slice (some ⟨W3.heap.size + 1, 0, none⟩) 1 1, [[1]]), (vA, aA)] [(.slice (some ⟨W11.heap.size + 1, 0, none⟩) 65 65, List.replicate 65 0), (.slice (some ⟨W7.heap.size, 0, none⟩) 1 1, [-1]), (.slice (some ⟨W6.heap.size + 1 + 1 + 1, 0, none⟩) 2 2, [3, 7]), (.slice (some ⟨E.heap.size, 0, none⟩) 13 13, wideL), (.slice FA 2 cA, [1, 1]), (.slice FB 2 cB, [0, 1])] [(gF, .cells #[.slice FA 2 cA, .slice FB 2 cB] 49 (0, 0))]) := by
    have hg := fun i o h => allocs_get W11 [.cells #[.slice A1 n1 c1, .slice B1 k1 d1] 49, .cells (ints (List.replicate 65 0)).toArray 3] i o h
    have hlow := allocs_below W11 [.cells #[.slice A1 n1 c1, .slice B1 k1 d1] 49, .cells (ints (List.replicate 65 0)).toArray 3]
    have h := hbag.out.below hlow
    have h := h.addI (RdI_lit (n := 65) (xs := List.replicate 65 0) (hg 1 _ rfl) (by simp) (by decide))
    rw [made65]
    exact ⟨_, rfl, Lib.hid (Below.then_ hBB.out hlow), Lib.hid h⟩
  replace hX25 := Lib.hid hX25
  go_wp2_with fail
  rw [hX25.out]
  refine (rule_err s_many (Least_any (List.replicate 65 0) _ _ (hbag.out.2.1 (.slice (some ⟨W11.heap.size + 1, 0, none⟩) 65 65, List.replicate 65 0) (by simp)))).mono ?_
  rintro e W12 ⟨⟨A2, n2, c2, B2, k2, d2, rfl⟩, hB⟩
  have hBB' := Lib.hid (Below.then_ hBX25.out hB)
  replace hbag : Hid (Bag W12 [(.slice (some ⟨W8.heap.size + 1 + 1, 0, none⟩) 2 2, [[1, 1], [1, 1]]), (.slice (some ⟨W6.heap.size + 1 + 1, 0, none⟩) 2 2, [[1, 1], [2, 2]]), (.slice (some ⟨W4.heap.size + 1, 0, none⟩) 1 1, [[1, 1]]), (.slice (some ⟨W3.heap.size + 1, 0, none⟩) 1 1, [[1]]), (vA, aA)] [(.slice (some ⟨W11.heap.size + 1, 0, none⟩) 65 65, List.replicate 65 0), (.slice (some ⟨W7.heap.size, 0, none⟩) 1 1, [-1]), (.slice (some ⟨W6.heap.size + 1 + 1 + 1, 0, none⟩) 2 2, [3, 7]), (.slice (some ⟨E.heap.size, 0, none⟩) 13 13, wideL), (.slice FA 2 cA, [1, 1]), (.slice FB 2 cB, [0, 1])] [(gF, .cells #[.slice FA 2 cA, .slice FB 2 cB] 49 (0, 0))]) := Lib.hid (hbag.out.below hB)
  clear hB hBB
  clear hX25 hBX25
  have hBB := hBB'; clear hBB'
  clear hR
  obtain ⟨X6, hX6, hBX6, hbag⟩ : ∃ X, (W12.alloc (.cells #[.slice A2 n2 c2, .slice B2 k2 d2] 49)) = X ∧ Hid (Below w.heap.size w X) ∧ Hid (Bag X [(.slice (some ⟨W8.heap.size + 1 + 1, 0, none⟩) 2 2, [[1, 1], [1, 1]]), (.slice (some ⟨W6.heap.size + 1 + 1, 0, none⟩) 2 2, [[1, 1], [2, 2]]), (.slice (some ⟨W4.heap.size + 1, 0, none⟩) 1 1, [[1, 1]]), (.slice (some ⟨W3.heap.size + 1, 0, none⟩) 1 1, [[1]]), (vA, aA)] [(.slice (some ⟨W11.heap.size + 1, 0, none⟩) 65 65, List.replicate 65 0), (.slice (some ⟨W7.heap.size, 0, none⟩) 1 1, [-1]), (.slice (some ⟨W6.heap.size + 1 + 1 + 1, 0, none⟩) 2 2, [3, 7]), (.slice (some ⟨E.heap.size, 0, none⟩) 13 13, wideL), (.slice FA 2 cA, [1, 1]), (.slice FB 2 cB, [0, 1])] [(gF, .cells #[.slice FA 2 cA, .slice FB 2 cB] 49 (0, 0))]) := by
    have hg := fun i o h => allocs_get W12 [.cells #[.slice A2 n2 c2, .slice B2 k2 d2] 49] i o h
    have hlow := allocs_below W12 [.cells #[.slice A2 n2 c2, .slice B2 k2 d2] 49]
    have h := hbag.out.below hlow
    exact ⟨_, rfl, Lib.hid (Below.then_ hBB.out hlow), Lib.hid h⟩
  replace hX6 := Lib.hid hX6
  obtain ⟨q0, q1, -, -⟩ := ret_cell (hbag.out.2.2 (gF, .cells #[.slice FA 2 cA, .slice FB 2 cB] 49 (0, 0)) (by simp))
  rw [← hX6.out] at q0 q1
  go_wp2_with fail
  rw [hX6.out]
  refine (row_err s_te65 (fieldTerms_any fibR 65 _ _ ⟨_, _, rfl, (hbag.out.2.1 (.slice FA 2 cA, [1, 1]) (by simp)), (hbag.out.2.1 (.slice FB 2 cB, [0, 1]) (by simp))⟩)).mono ?_
  rintro e W13 ⟨⟨m8, rfl⟩, hB⟩
  have hBB' := Lib.hid (Below.then_ hBX6.out hB)
  replace hbag : Hid (Bag W13 [(.slice (some ⟨W8.heap.size + 1 + 1, 0, none⟩) 2 2, [[1, 1], [1, 1]]), (.slice (some ⟨W6.heap.size + 1 + 1, 0, none⟩) 2 2, [[1, 1], [2, 2]]), (.slice (some ⟨W4.heap.size + 1, 0, none⟩) 1 1, [[1, 1]]), (.slice (some ⟨W3.heap.size + 1, 0, none⟩) 1 1, [[1]]), (vA, aA)] [(.slice (some ⟨W11.heap.size + 1, 0, none⟩) 65 65, List.replicate 65 0), (.slice (some ⟨W7.heap.size, 0, none⟩) 1 1, [-1]), (.slice (some ⟨W6.heap.size + 1 + 1 + 1, 0, none⟩) 2 2, [3, 7]), (.slice (some ⟨E.heap.size, 0, none⟩) 13 13, wideL), (.slice FA 2 cA, [1, 1]), (.slice FB 2 cB, [0, 1])] [(gF, .cells #[.slice FA 2 cA, .slice FB 2 cB] 49 (0, 0))]) := Lib.hid (hbag.out.below hB)
  clear hB hBB
  clear hX6 hBX6
  have hBB := hBB'; clear hBB'
  clear q0 q1
  go_wp2_with fail
  refine (sm_check s_c0 _ _ (RdM_nil _)).mono ?_
  rintro e W14 ⟨rfl, hB⟩
  have hBB' := Lib.hid (Below.then_ hBB.out hB)
  replace hbag : Hid (Bag W14 [(.slice (some ⟨W8.heap.size + 1 + 1, 0, none⟩) 2 2, [[1, 1], [1, 1]]), (.slice (some ⟨W6.heap.size + 1 + 1, 0, none⟩) 2 2, [[1, 1], [2, 2]]), (.slice (some ⟨W4.heap.size + 1, 0, none⟩) 1 1, [[1, 1]]), (.slice (some ⟨W3.heap.size + 1, 0, none⟩) 1 1, [[1]]), (vA, aA)] [(.slice (some ⟨W11.heap.size + 1, 0, none⟩) 65 65, List.replicate 65 0), (.slice (some ⟨W7.heap.size, 0, none⟩) 1 1, [-1]), (.slice (some ⟨W6.heap.size + 1 + 1 + 1, 0, none⟩) 2 2, [3, 7]), (.slice (some ⟨E.heap.size, 0, none⟩) 13 13, wideL), (.slice FA 2 cA, [1, 1]), (.slice FB 2 cB, [0, 1])] [(gF, .cells #[.slice FA 2 cA, .slice FB 2 cB] 49 (0, 0))]) := Lib.hid (hbag.out.below hB)
  clear hB hBB
  have hBB := hBB'; clear hBB'
  obtain ⟨X27, hX27, hBX27, hbag⟩ : ∃ X, (((W14.alloc (.cells #[.int .i64 1] 3)).alloc (.cells #[.int .i64 1, .int .i64 2] 3)).alloc (.cells #[.slice (some ⟨W14.heap.size, 0, none⟩) 1 1, .slice (some ⟨W14.heap.size + 1, 0, none⟩) 2 2] 23)) = X ∧ Hid (Below w.heap.size w X) ∧ Hid (Bag X [(.slice (some ⟨W14.heap.size + 1 + 1, 0, none⟩) 2 2, [[1], [1, 2]]), (.slice (some ⟨W8.heap.size + 1 + 1, 0, none⟩) 2 2, [[1, 1], [1, 1]]), (.slice (some ⟨W6.heap.size + 1 + 1, 0, none⟩) 2 2, [[1, 1], [2, 2]]), (.slice (some ⟨W4.heap.size + 1, 0, none⟩) 1 1, [[1, 1]]), (.slice (some ⟨W3.heap.size + 1, 0, none⟩) 1 1, [[1]]), (vA, aA)] [(.slice (some ⟨W11.heap.size + 1, 0, none⟩) 65 65, List.replicate 65 0), (.slice (some ⟨W7.heap.size, 0, none⟩) 1 1, [-1]), (.slice (some ⟨W6.heap.size + 1 + 1 + 1, 0, none⟩) 2 2, [3, 7]), (.slice (some ⟨E.heap.size, 0, none⟩) 13 13, wideL), (.slice FA 2 cA, [1, 1]), (.slice FB 2 cB, [0, 1])] [(gF, .cells #[.slice FA 2 cA, .slice FB 2 cB] 49 (0, 0))]) := by
    have hg := fun i o h => allocs_get W14 [.cells #[.int .i64 1] 3, .cells #[.int .i64 1, .int .i64 2] 3, .cells #[.slice (some ⟨W14.heap.size, 0, none⟩) 1 1, .slice (some ⟨W14.heap.size + 1, 0, none⟩) 2 2] 23] i o h
    have hlow := allocs_below W14 [.cells #[.int .i64 1] 3, .cells #[.int .i64 1, .int .i64 2] 3, .cells #[.slice (some ⟨W14.heap.size, 0, none⟩) 1 1, .slice (some ⟨W14.heap.size + 1, 0, none⟩) 2 2] 23]
    have h := hbag.out.below hlow
    have h := h.addM (RdM_lit2 (hg 2 _ rfl) (RdI_lit (xs := [1]) (hg 0 _ rfl) rfl (by decide)) (RdI_lit (xs := [1, 2]) (hg 1 _ rfl) rfl (by decide)))
    exact ⟨_, rfl, Lib.hid (Below.then_ hBB.out hlow), Lib.hid h⟩
  replace hX27 := Lib.hid hX27
  go_wp2_with fail
  rw [hX27.out]
  refine (sm_check s_c1 _ _ (hbag.out.1 (.slice (some ⟨W14.heap.size + 1 + 1, 0, none⟩) 2 2, [[1], [1, 2]]) (by simp))).mono ?_
  rintro e W15 ⟨rfl, hB⟩
  have hBB' := Lib.hid (Below.then_ hBX27.out hB)
  replace hbag : Hid (Bag W15 [(.slice (some ⟨W14.heap.size + 1 + 1, 0, none⟩) 2 2, [[1], [1, 2]]), (.slice (some ⟨W8.heap.size + 1 + 1, 0, none⟩) 2 2, [[1, 1], [1, 1]]), (.slice (some ⟨W6.heap.size + 1 + 1, 0, none⟩) 2 2, [[1, 1], [2, 2]]), (.slice (some ⟨W4.heap.size + 1, 0, none⟩) 1 1, [[1, 1]]), (.slice (some ⟨W3.heap.size + 1, 0, none⟩) 1 1, [[1]]), (vA, aA)] [(.slice (some ⟨W11.heap.size + 1, 0, none⟩) 65 65, List.replicate 65 0), (.slice (some ⟨W7.heap.size, 0, none⟩) 1 1, [-1]), (.slice (some ⟨W6.heap.size + 1 + 1 + 1, 0, none⟩) 2 2, [3, 7]), (.slice (some ⟨E.heap.size, 0, none⟩) 13 13, wideL), (.slice FA 2 cA, [1, 1]), (.slice FB 2 cB, [0, 1])] [(gF, .cells #[.slice FA 2 cA, .slice FB 2 cB] 49 (0, 0))]) := Lib.hid (hbag.out.below hB)
  clear hB hBB
  clear hX27 hBX27
  have hBB := hBB'; clear hBB'
  obtain ⟨X28, hX28, hBX28, hbag⟩ : ∃ X, ((W15.alloc (.cells #[.int .i64 65521] 3)).alloc (.cells #[.slice (some ⟨W15.heap.size, 0, none⟩) 1 1] 23)) = X ∧ Hid (Below w.heap.size w X) ∧ Hid (Bag X [(.slice (some ⟨W15.heap.size + 1, 0, none⟩) 1 1, [[65521]]), (.slice (some ⟨W14.heap.size + 1 + 1, 0, none⟩) 2 2, [[1], [1, 2]]), (.slice (some ⟨W8.heap.size + 1 + 1, 0, none⟩) 2 2, [[1, 1], [1, 1]]), (.slice (some ⟨W6.heap.size + 1 + 1, 0, none⟩) 2 2, [[1, 1], [2, 2]]), (.slice (some ⟨W4.heap.size + 1, 0, none⟩) 1 1, [[1, 1]]), (.slice (some ⟨W3.heap.size + 1, 0, none⟩) 1 1, [[1]]), (vA, aA)] [(.slice (some ⟨W11.heap.size + 1, 0, none⟩) 65 65, List.replicate 65 0), (.slice (some ⟨W7.heap.size, 0, none⟩) 1 1, [-1]), (.slice (some ⟨W6.heap.size + 1 + 1 + 1, 0, none⟩) 2 2, [3, 7]), (.slice (some ⟨E.heap.size, 0, none⟩) 13 13, wideL), (.slice FA 2 cA, [1, 1]), (.slice FB 2 cB, [0, 1])] [(gF, .cells #[.slice FA 2 cA, .slice FB 2 cB] 49 (0, 0))]) := by
    have hg := fun i o h => allocs_get W15 [.cells #[.int .i64 65521] 3, .cells #[.slice (some ⟨W15.heap.size, 0, none⟩) 1 1] 23] i o h
    have hlow := allocs_below W15 [.cells #[.int .i64 65521] 3, .cells #[.slice (some ⟨W15.heap.size, 0, none⟩) 1 1] 23]
    have h := hbag.out.below hlow
    have h := h.addM (RdM_lit1 (hg 1 _ rfl) (RdI_lit (xs := [65521]) (hg 0 _ rfl) rfl (by decide)))
    exact ⟨_, rfl, Lib.hid (Below.then_ hBB.out hlow), Lib.hid h⟩
  replace hX28 := Lib.hid hX28
  go_wp2_with fail
  rw [hX28.out]
  refine (sm_check s_c2 _ _ (hbag.out.1 (.slice (some ⟨W15.heap.size + 1, 0, none⟩) 1 1, [[65521]]) (by simp))).mono ?_
  rintro e W16 ⟨rfl, hB⟩
  have hBB' := Lib.hid (Below.then_ hBX28.out hB)
  replace hbag : Hid (Bag W16 [(.slice (some ⟨W15.heap.size + 1, 0, none⟩) 1 1, [[65521]]), (.slice (some ⟨W14.heap.size + 1 + 1, 0, none⟩) 2 2, [[1], [1, 2]]), (.slice (some ⟨W8.heap.size + 1 + 1, 0, none⟩) 2 2, [[1, 1], [1, 1]]), (.slice (some ⟨W6.heap.size + 1 + 1, 0, none⟩) 2 2, [[1, 1], [2, 2]]), (.slice (some ⟨W4.heap.size + 1, 0, none⟩) 1 1, [[1, 1]]), (.slice (some ⟨W3.heap.size + 1, 0, none⟩) 1 1, [[1]]), (vA, aA)] [(.slice (some ⟨W11.heap.size + 1, 0, none⟩) 65 65, List.replicate 65 0), (.slice (some ⟨W7.heap.size, 0, none⟩) 1 1, [-1]), (.slice (some ⟨W6.heap.size + 1 + 1 + 1, 0, none⟩) 2 2, [3, 7]), (.slice (some ⟨E.heap.size, 0, none⟩) 13 13, wideL), (.slice FA 2 cA, [1, 1]), (.slice FB 2 cB, [0, 1])] [(gF, .cells #[.slice FA 2 cA, .slice FB 2 cB] 49 (0, 0))]) := Lib.hid (hbag.out.below hB)
  clear hB hBB
  clear hX28 hBX28
  have hBB := hBB'; clear hBB'
  go_wp2_with fail
  refine (sm_right s_r1 _ _ ⟨_, _, rfl, (hbag.out.2.1 (.slice (some ⟨E.heap.size, 0, none⟩) 13 13, wideL) (by simp)), (hbag.out.2.1 (.slice (some ⟨E.heap.size, 0, none⟩) 13 13, wideL) (by simp))⟩).mono ?_
  rintro e W17 ⟨rfl, hB⟩
  have hBB' := Lib.hid (Below.then_ hBB.out hB)
  replace hbag : Hid (Bag W17 [(.slice (some ⟨W15.heap.size + 1, 0, none⟩) 1 1, [[65521]]), (.slice (some ⟨W14.heap.size + 1 + 1, 0, none⟩) 2 2, [[1], [1, 2]]), (.slice (some ⟨W8.heap.size + 1 + 1, 0, none⟩) 2 2, [[1, 1], [1, 1]]), (.slice (some ⟨W6.heap.size + 1 + 1, 0, none⟩) 2 2, [[1, 1], [2, 2]]), (.slice (some ⟨W4.heap.size + 1, 0, none⟩) 1 1, [[1, 1]]), (.slice (some ⟨W3.heap.size + 1, 0, none⟩) 1 1, [[1]]), (vA, aA)] [(.slice (some ⟨W11.heap.size + 1, 0, none⟩) 65 65, List.replicate 65 0), (.slice (some ⟨W7.heap.size, 0, none⟩) 1 1, [-1]), (.slice (some ⟨W6.heap.size + 1 + 1 + 1, 0, none⟩) 2 2, [3, 7]), (.slice (some ⟨E.heap.size, 0, none⟩) 13 13, wideL), (.slice FA 2 cA, [1, 1]), (.slice FB 2 cB, [0, 1])] [(gF, .cells #[.slice FA 2 cA, .slice FB 2 cB] 49 (0, 0))]) := Lib.hid (hbag.out.below hB)
  clear hB hBB
  have hBB := hBB'; clear hBB'
  obtain ⟨X9, hX9, hBX9, hbag⟩ : ∃ X, (W17.alloc (.cells #[.int .i64 1] 3)) = X ∧ Hid (Below w.heap.size w X) ∧ Hid (Bag X [(.slice (some ⟨W15.heap.size + 1, 0, none⟩) 1 1, [[65521]]), (.slice (some ⟨W14.heap.size + 1 + 1, 0, none⟩) 2 2, [[1], [1, 2]]), (.slice (some ⟨W8.heap.size + 1 + 1, 0, none⟩) 2 2, [[1, 1], [1, 1]]), (.slice (some ⟨W6.heap.size + 1 + 1, 0, none⟩) 2 2, [[1, 1], [2, 2]]), (.slice (some ⟨W4.heap.size + 1, 0, none⟩) 1 1, [[1, 1]]), (.slice (some ⟨W3.heap.size + 1, 0, none⟩) 1 1, [[1]]), (vA, aA)] [(.slice (some ⟨W17.heap.size, 0, none⟩) 1 1, [1]), (.slice (some ⟨W11.heap.size + 1, 0, none⟩) 65 65, List.replicate 65 0), (.slice (some ⟨W7.heap.size, 0, none⟩) 1 1, [-1]), (.slice (some ⟨W6.heap.size + 1 + 1 + 1, 0, none⟩) 2 2, [3, 7]), (.slice (some ⟨E.heap.size, 0, none⟩) 13 13, wideL), (.slice FA 2 cA, [1, 1]), (.slice FB 2 cB, [0, 1])] [(gF, .cells #[.slice FA 2 cA, .slice FB 2 cB] 49 (0, 0))]) := by
    have hg := fun i o h => allocs_get W17 [.cells #[.int .i64 1] 3] i o h
    have hlow := allocs_below W17 [.cells #[.int .i64 1] 3]
    have h := hbag.out.below hlow
    have h := h.addI (RdI_lit (xs := [1]) (hg 0 _ rfl) rfl (by decide))
    exact ⟨_, rfl, Lib.hid (Below.then_ hBB.out hlow), Lib.hid h⟩
  replace hX9 := Lib.hid hX9
  go_wp2_with fail
  rw [hX9.out]
  refine (sm_right s_r2 _ _ ⟨_, _, rfl, (hbag.out.2.1 (.slice (some ⟨W17.heap.size, 0, none⟩) 1 1, [1]) (by simp)), RdI_nil _⟩).mono ?_
  rintro e W18 ⟨rfl, hB⟩
  have hBB' := Lib.hid (Below.then_ hBX9.out hB)
  replace hbag : Hid (Bag W18 [(.slice (some ⟨W15.heap.size + 1, 0, none⟩) 1 1, [[65521]]), (.slice (some ⟨W14.heap.size + 1 + 1, 0, none⟩) 2 2, [[1], [1, 2]]), (.slice (some ⟨W8.heap.size + 1 + 1, 0, none⟩) 2 2, [[1, 1], [1, 1]]), (.slice (some ⟨W6.heap.size + 1 + 1, 0, none⟩) 2 2, [[1, 1], [2, 2]]), (.slice (some ⟨W4.heap.size + 1, 0, none⟩) 1 1, [[1, 1]]), (.slice (some ⟨W3.heap.size + 1, 0, none⟩) 1 1, [[1]]), (vA, aA)] [(.slice (some ⟨W17.heap.size, 0, none⟩) 1 1, [1]), (.slice (some ⟨W11.heap.size + 1, 0, none⟩) 65 65, List.replicate 65 0), (.slice (some ⟨W7.heap.size, 0, none⟩) 1 1, [-1]), (.slice (some ⟨W6.heap.size + 1 + 1 + 1, 0, none⟩) 2 2, [3, 7]), (.slice (some ⟨E.heap.size, 0, none⟩) 13 13, wideL), (.slice FA 2 cA, [1, 1]), (.slice FB 2 cB, [0, 1])] [(gF, .cells #[.slice FA 2 cA, .slice FB 2 cB] 49 (0, 0))]) := Lib.hid (hbag.out.below hB)
  clear hB hBB
  clear hX9 hBX9
  have hBB := hBB'; clear hBB'
  obtain ⟨X10, hX10, hBX10, hbag⟩ : ∃ X, ((W18.alloc (.cells #[.int .i64 1] 3)).alloc (.cells #[.int .i64 (-1)] 3)) = X ∧ Hid (Below w.heap.size w X) ∧ Hid (Bag X [(.slice (some ⟨W15.heap.size + 1, 0, none⟩) 1 1, [[65521]]), (.slice (some ⟨W14.heap.size + 1 + 1, 0, none⟩) 2 2, [[1], [1, 2]]), (.slice (some ⟨W8.heap.size + 1 + 1, 0, none⟩) 2 2, [[1, 1], [1, 1]]), (.slice (some ⟨W6.heap.size + 1 + 1, 0, none⟩) 2 2, [[1, 1], [2, 2]]), (.slice (some ⟨W4.heap.size + 1, 0, none⟩) 1 1, [[1, 1]]), (.slice (some ⟨W3.heap.size + 1, 0, none⟩) 1 1, [[1]]), (vA, aA)] [(.slice (some ⟨W18.heap.size + 1, 0, none⟩) 1 1, [-1]), (.slice (some ⟨W18.heap.size, 0, none⟩) 1 1, [1]), (.slice (some ⟨W17.heap.size, 0, none⟩) 1 1, [1]), (.slice (some ⟨W11.heap.size + 1, 0, none⟩) 65 65, List.replicate 65 0), (.slice (some ⟨W7.heap.size, 0, none⟩) 1 1, [-1]), (.slice (some ⟨W6.heap.size + 1 + 1 + 1, 0, none⟩) 2 2, [3, 7]), (.slice (some ⟨E.heap.size, 0, none⟩) 13 13, wideL), (.slice FA 2 cA, [1, 1]), (.slice FB 2 cB, [0, 1])] [(gF, .cells #[.slice FA 2 cA, .slice FB 2 cB] 49 (0, 0))]) := by
    have hg := fun i o h => allocs_get W18 [.cells #[.int .i64 1] 3, .cells #[.int .i64 (-1)] 3] i o h
    have hlow := allocs_below W18 [.cells #[.int .i64 1] 3, .cells #[.int .i64 (-1)] 3]
    have h := hbag.out.below hlow
    have h := h.addI (RdI_lit (xs := [1]) (hg 0 _ rfl) rfl (by decide))
    have h := h.addI (RdI_lit (xs := [-1]) (hg 1 _ rfl) rfl (by decide))
    exact ⟨_, rfl, Lib.hid (Below.then_ hBB.out hlow), Lib.hid h⟩
  replace hX10 := Lib.hid hX10
  go_wp2_with fail
  rw [hX10.out]
  refine (sm_right s_r3 _ _ ⟨_, _, rfl, (hbag.out.2.1 (.slice (some ⟨W18.heap.size, 0, none⟩) 1 1, [1]) (by simp)), (hbag.out.2.1 (.slice (some ⟨W18.heap.size + 1, 0, none⟩) 1 1, [-1]) (by simp))⟩).mono ?_
  rintro e W19 ⟨rfl, hB⟩
  have hBB' := Lib.hid (Below.then_ hBX10.out hB)
  replace hbag : Hid (Bag W19 [(.slice (some ⟨W15.heap.size + 1, 0, none⟩) 1 1, [[65521]]), (.slice (some ⟨W14.heap.size + 1 + 1, 0, none⟩) 2 2, [[1], [1, 2]]), (.slice (some ⟨W8.heap.size + 1 + 1, 0, none⟩) 2 2, [[1, 1], [1, 1]]), (.slice (some ⟨W6.heap.size + 1 + 1, 0, none⟩) 2 2, [[1, 1], [2, 2]]), (.slice (some ⟨W4.heap.size + 1, 0, none⟩) 1 1, [[1, 1]]), (.slice (some ⟨W3.heap.size + 1, 0, none⟩) 1 1, [[1]]), (vA, aA)] [(.slice (some ⟨W18.heap.size + 1, 0, none⟩) 1 1, [-1]), (.slice (some ⟨W18.heap.size, 0, none⟩) 1 1, [1]), (.slice (some ⟨W17.heap.size, 0, none⟩) 1 1, [1]), (.slice (some ⟨W11.heap.size + 1, 0, none⟩) 65 65, List.replicate 65 0), (.slice (some ⟨W7.heap.size, 0, none⟩) 1 1, [-1]), (.slice (some ⟨W6.heap.size + 1 + 1 + 1, 0, none⟩) 2 2, [3, 7]), (.slice (some ⟨E.heap.size, 0, none⟩) 13 13, wideL), (.slice FA 2 cA, [1, 1]), (.slice FB 2 cB, [0, 1])] [(gF, .cells #[.slice FA 2 cA, .slice FB 2 cB] 49 (0, 0))]) := Lib.hid (hbag.out.below hB)
  clear hB hBB
  clear hX10 hBX10
  have hBB := hBB'; clear hBB'
  go_wp2_with fail
  refine (awake_any _ (hJ.out.below hBB.out)).mono ?_
  rintro e W20 ⟨rfl, hB⟩
  have hBB' := Lib.hid (Below.then_ hBB.out hB)
  replace hbag : Hid (Bag W20 [(.slice (some ⟨W15.heap.size + 1, 0, none⟩) 1 1, [[65521]]), (.slice (some ⟨W14.heap.size + 1 + 1, 0, none⟩) 2 2, [[1], [1, 2]]), (.slice (some ⟨W8.heap.size + 1 + 1, 0, none⟩) 2 2, [[1, 1], [1, 1]]), (.slice (some ⟨W6.heap.size + 1 + 1, 0, none⟩) 2 2, [[1, 1], [2, 2]]), (.slice (some ⟨W4.heap.size + 1, 0, none⟩) 1 1, [[1, 1]]), (.slice (some ⟨W3.heap.size + 1, 0, none⟩) 1 1, [[1]]), (vA, aA)] [(.slice (some ⟨W18.heap.size + 1, 0, none⟩) 1 1, [-1]), (.slice (some ⟨W18.heap.size, 0, none⟩) 1 1, [1]), (.slice (some ⟨W17.heap.size, 0, none⟩) 1 1, [1]), (.slice (some ⟨W11.heap.size + 1, 0, none⟩) 65 65, List.replicate 65 0), (.slice (some ⟨W7.heap.size, 0, none⟩) 1 1, [-1]), (.slice (some ⟨W6.heap.size + 1 + 1 + 1, 0, none⟩) 2 2, [3, 7]), (.slice (some ⟨E.heap.size, 0, none⟩) 13 13, wideL), (.slice FA 2 cA, [1, 1]), (.slice FB 2 cB, [0, 1])] [(gF, .cells #[.slice FA 2 cA, .slice FB 2 cB] 49 (0, 0))]) := Lib.hid (hbag.out.below hB)
  clear hB hBB
  have hBB := hBB'; clear hBB'
  go_wp2
  go_ret
  exact ⟨rfl, hBB.out⟩
end Go.Proofs.YtfljkcmijnhgkaaDoor
