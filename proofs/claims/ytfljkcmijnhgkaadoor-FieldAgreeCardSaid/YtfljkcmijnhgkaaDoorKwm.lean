/- FieldAgree: from the first terms on. FieldAgree: its contract. -/
import Derived.Test.YtfljkcmijnhgkaaDoorKwk
import Derived.Test.YtfljkcmijnhgkaaDoorKwl
import Derived.Test.YtfljkcmijnhgkaaDoorKl
import Derived.Test.YtfljkcmijnhgkaaDoorKm
import Derived.Test.YtfljkcmijnhgkaaDoorKwj
import Derived.Test.YtfljkcmijnhgkaaDoorKwf
namespace Go.Proofs.YtfljkcmijnhgkaaDoor
open Go.RowKit Go.Shelf
set_option linter.unusedSimpArgs false
set_option maxRecDepth 1000000 in
set_option maxHeartbeats 12800000 in
theorem ag_tail11 {c0 c1 c2 c3 c6 c7 c8 c9 c10 c11 c12 c15 c16 c17 c18 c19 c20 c21 c22 c23 c24 c25 c26 c27 c28 c29 c30 c31 c32 c33 c34 c35 c36 c37 c38 c39 c40 c41 c42 c43 c44 c45 c46 c47 c48 c49 c50 c51 c52 c53 c54 c55 c56 c57 c58 c59 c60 c61 c62 c63 c64 c65 c66 c67 c68 c69 c70 c71 c72 c73 c74 c75 c76 c77 c78 c79 c80 c81 c82 c83 c84 c85 c86 c87 c88 c89 c90 c91 c92 c93 c94 c95 c96 c97 c98 c99 c100 c101 c102 c103 c104 c105 c106 c107 c108 c109 c110 c111 c112 c113 c114 c115 c116 c117 c118 c119 c120 c121 c122 c123 c124 c125 c126 c127 c128 c129 c130 c131 c132 c133 c134 c135 c136 c137 c138 c139 c140 c141 c142 c143 c144 c145 c146 c147 c148 c149 c150 c151 c152 c153 c154 c155 c156 c157 c158 c159 c160 c161 c162 c163 c164 c165 c166 c167 c168 c169 c170 c171 c172 c173 c174 c175 c176 c177 c178 c179 c180 c181 c182 c183 c184 c185 c186 c187 c188 c189 c190 c191 c192 c193 c194 c195 c196 c197 c198 c199 c200 c201 c202 c203 c204 c205 c206 c207 c208 c209 c210 c211 c212 c213 c214 c215 c216 c217 c218 c219 c220 c221 c222 c223 c224 c225 c226 c227 c228 c229 c230 c231 c232 c233 c234 c235 c236 c237 c238 c239 c240 c241 c242 c243 c244 c245 c246 c247 c248 c249 c250 c251 c252 c253 c254 c255 c256 c257 c258 c259 c260 c261 c262 c263 c264 c265 c266 c267 c268 c269 c270 c271 c272 c273 c274 c275 c276 c277 c278 c279 c280 c281 c282 c283 c284 c285 c286 c287 c288 c289 c290 c291 c292 c293 c294 c295 c296 c297 c298 c299 c300 c301 c302 c303 c304 c305 c306 c307 c308 c309 c310 c311 c312 c313 c314 c315 c316 c317 c318 c319 c320 c321 c322 c323 c324 c325 c326 c327 c328 c329 c330 c331 c332 c333 c334 c335 c336 c337 c338 c339 c340 c341 c342 c343 c344 c345 c346 c347 c348 c349 c350 c351 c352 c353 : Value} (r s : Rule) (m n fr g1 g2 : Nat) (al : Bool) (A B A2 B2 : Option Addr) (ca cb ca2 cb2 : Nat) (w E : World) (hok : Hid (okR r m)) (oks : Hid (okR s n)) (hm2 : m ≤ 3) (hn2 : n ≤ 4) (hal : Hid (al = true → ∀ t, termK s t = termK r t)) (hfr : Hid (fr < 18446744073709551616)) (hT : Hid (Below w.heap.size w E)) (hJ : Joins w)
    (rr : Hid (RdR E (.agg #[.slice A m ca, .slice B m cb]) r)) (rs : Hid (RdR E (.agg #[.slice A2 n ca2, .slice B2 n cb2]) s))
    (Y_0 : E.cell? ⟨g1, 0, none⟩ = some (.slice A m ca)) (Y_1 : E.cell? ⟨g1, 1, none⟩ = some (.slice B m cb)) (Z_0 : E.cell? ⟨g2, 0, none⟩ = some (.slice A2 n ca2)) (Z_1 : E.cell? ⟨g2, 1, none⟩ = some (.slice B2 n cb2)) :
    Code.wp Tryd.prog (agT 11) (bodyPost Tryd.prog Tryd.f8 (fun e w' => e = .returned (.bool true) ∧ Below w.heap.size w w')) ⟨#[c0, c1, c2, c3, .int .u64 (fr : Int), .bool al, c6, c7, c8, c9, c10, c11, c12, .pointer (some ⟨g1, 0, none⟩), .pointer (some ⟨g2, 0, none⟩), c15, c16, c17, c18, c19, c20, c21, c22, c23, c24, c25, c26, c27, c28, c29, c30, c31, c32, c33, c34, c35, c36, c37, c38, c39, c40, c41, c42, c43, c44, c45, c46, c47, c48, c49, c50, c51, c52, c53, c54, c55, c56, c57, c58, c59, c60, c61, c62, c63, c64, c65, c66, c67, c68, c69, c70, c71, c72, c73, c74, c75, c76, c77, c78, c79, c80, c81, c82, c83, c84, c85, c86, c87, c88, c89, c90, c91, c92, c93, c94, c95, c96, c97, c98, c99, c100, c101, c102, c103, c104, c105, c106, c107, c108, c109, c110, c111, c112, c113, c114, c115, c116, c117, c118, c119, c120, c121, c122, c123, c124, c125, c126, c127, c128, c129, c130, c131, c132, c133, c134, c135, c136, c137, c138, c139, c140, c141, c142, c143, c144, c145, c146, c147, c148, c149, c150, c151, c152, c153, c154, c155, c156, c157, c158, c159, c160, c161, c162, c163, c164, c165, c166, c167, c168, c169, c170, c171, c172, c173, c174, c175, c176, c177, c178, c179, c180, c181, c182, c183, c184, c185, c186, c187, c188, c189, c190, c191, c192, c193, c194, c195, c196, c197, c198, c199, c200, c201, c202, c203, c204, c205, c206, c207, c208, c209, c210, c211, c212, c213, c214, c215, c216, c217, c218, c219, c220, c221, c222, c223, c224, c225, c226, c227, c228, c229, c230, c231, c232, c233, c234, c235, c236, c237, c238, c239, c240, c241, c242, c243, c244, c245, c246, c247, c248, c249, c250, c251, c252, c253, c254, c255, c256, c257, c258, c259, c260, c261, c262, c263, c264, c265, c266, c267, c268, c269, c270, c271, c272, c273, c274, c275, c276, c277, c278, c279, c280, c281, c282, c283, c284, c285, c286, c287, c288, c289, c290, c291, c292, c293, c294, c295, c296, c297, c298, c299, c300, c301, c302, c303, c304, c305, c306, c307, c308, c309, c310, c311, c312, c313, c314, c315, c316, c317, c318, c319, c320, c321, c322, c323, c324, c325, c326, c327, c328, c329, c330, c331, c332, c333, c334, c335, c336, c337, c338, c339, c340, c341, c342, c343, c344, c345, c346, c347, c348, c349, c350, c351, c352, c353], []⟩ E := by
  conv => arg 2; whnf
  conv => arg 4; dsimp only
  let Qz : Exit → Act → World → Prop := bodyPost Tryd.prog Tryd.f8 (fun _ _ => True)
  have hA := Lib.hid (fun W (hW : Below w.heap.size w W) => awake_any W (hJ.below hW))
  have hJW := Lib.hid (fun W (hW : Below w.heap.size w W) => hJ.below hW)
  clear hA hJW
  obtain ⟨M, hM⟩ : ∃ M, M = m + n := ⟨_, rfl⟩
  have eM : (m : Int) + (n : Int) = (M : Int) := by omega
  have hM7 : M ≤ 7 := by omega
  replace hM := Lib.hid hM
  obtain ⟨F, hF⟩ : ∃ F, F = fr / 2 := ⟨_, rfl⟩
  have hF2 : Hid (F ≤ 9223372036854775807) := Lib.hid (by rw [hF]; exact Nat.le_of_lt_succ (Nat.div_lt_of_lt_mul (by have := hfr.out; omega)))
  have eF : wrap64 ((fr : Int) / 2) = (F : Int) := by rw [show (fr : Int) / 2 = (F : Int) by omega]; exact IntWalk.wrap64_in _ ⟨by omega, by have := hF2.out; omega⟩
  replace hF := Lib.hid hF
  have cG1 := Lib.hid (fun W (h : RdR W _ r) => go1_any r 40 (.agg #[.slice A m ca, .slice B m cb]) W h (by rw [hok.out.1.1, hok.out.2.1]; exact Nat.le_refl _) (by rw [hok.out.2.1]; omega) hok.out.1.2 hok.out.2.2 (by omega))
  have cG2 := Lib.hid (fun W (h : RdR W _ s) => go1_any s 40 (.agg #[.slice A2 n ca2, .slice B2 n cb2]) W h (by rw [oks.out.1.1, oks.out.2.1]; exact Nat.le_refl _) (by rw [oks.out.2.1]; omega) oks.out.1.2 oks.out.2.2 (by omega))
  have cA := Lib.hid (fun W (h1 : RdR W _ r) (h2 : RdR W _ s) => Apart_any r s (.agg #[.slice A m ca, .slice B m cb]) (.agg #[.slice A2 n ca2, .slice B2 n cb2]) W h1 h2)
  have cT1 := Lib.hid (fun W (h : RdR W _ r) => Term_any r (F : Int) (.agg #[.slice A m ca, .slice B m cb]) W (by have := hF2.out; omega) h)
  rw [termR_at hok.out (by omega) (Nat.lt_of_le_of_lt hF2.out (by decide))] at cT1
  have cT2 := Lib.hid (fun W (h : RdR W _ s) => Term_any s (F : Int) (.agg #[.slice A2 n ca2, .slice B2 n cb2]) W (by have := hF2.out; omega) h)
  rw [termR_at oks.out (by omega) (Nat.lt_of_le_of_lt hF2.out (by decide))] at cT2
  have hap := Lib.hid (apart_law hok.out oks.out (show m ≤ 12 by omega) (show n ≤ 12 by omega))
  obtain ⟨pn, hpn⟩ : ∃ pn, pn = (apartR r s).1 := ⟨_, rfl⟩
  obtain ⟨pe, hpe⟩ : ∃ pe, pe = (apartR r s).2 := ⟨_, rfl⟩
  rw [← hpn, ← hpe] at cA
  replace hpn := Lib.hid hpn
  replace hpe := Lib.hid hpe
  obtain ⟨x, hx⟩ : ∃ x, x = termK r F := ⟨_, rfl⟩
  obtain ⟨y, hy⟩ : ∃ y, y = termK s F := ⟨_, rfl⟩
  rw [← hx] at cT1
  rw [← hy] at cT2
  replace hx := Lib.hid hx
  replace hy := Lib.hid hy
  go_upto_region 12 with fail
  go_wp2
  have HS : E.cell? ⟨g1, 0, none⟩ = some (.slice A m ca) ∧ E.cell? ⟨g1, 1, none⟩ = some (.slice B m cb) ∧ E.cell? ⟨g2, 0, none⟩ = some (.slice A2 n ca2) ∧ E.cell? ⟨g2, 1, none⟩ = some (.slice B2 n cb2) := ⟨Y_0, Y_1, Z_0, Z_1⟩
  refine D_begin (fun w' => w'.cell? ⟨g1, 0, none⟩ = some (.slice A m ca) ∧ w'.cell? ⟨g1, 1, none⟩ = some (.slice B m cb) ∧ w'.cell? ⟨g2, 0, none⟩ = some (.slice A2 n ca2) ∧ w'.cell? ⟨g2, 1, none⟩ = some (.slice B2 n cb2)) (fun _ => True) 99 (by kernel_rfl) ?_
  change wpAnyD _ _ _ _ _ _ _ _ _ _ E.drew
  simp only [List.size_toArray, List.length_cons, List.length_nil, Nat.reduceAdd, Array.replicate_succ, Array.replicate_zero, List.push_toArray, List.append_toArray, List.nil_append, List.cons_append]
  refine D_take (i := 0) (v := ?_) rfl (by kernel_rfl) (by kernel_rfl) (by kernel_rfl) (by kernel_rfl) (fun _ _ _ h => h) (Or.inl ⟨by rfl, ?_⟩) HS (fun _ => trivial) ?_
  rotate_left; · intro w1 hw1; obtain ⟨hw1, hw2, hw3, hw4⟩ := hw1; go_simp; try with_reducible rfl
  try simp only [Act.put, List.getElem_toArray, List.getElem_cons_zero, List.getElem_cons_succ, List.setIfInBounds_toArray, List.set_cons_zero, List.set_cons_succ]
  refine D_take (i := 2) (v := ?_) rfl (by kernel_rfl) (by kernel_rfl) (by kernel_rfl) (by kernel_rfl) (fun _ _ _ h => h) (Or.inl ⟨by rfl, ?_⟩) HS (fun _ => trivial) ?_
  rotate_left; · intro w1 hw1; obtain ⟨hw1, hw2, hw3, hw4⟩ := hw1; go_simp; try with_reducible rfl
  try simp only [Act.put, List.getElem_toArray, List.getElem_cons_zero, List.getElem_cons_succ, List.setIfInBounds_toArray, List.set_cons_zero, List.set_cons_succ]
  have hd : Below E.heap.size E E.drew := (Below.refl _ _).drew
  clear HS
  generalize E.drew = Ed at hd ⊢
  replace hT := Lib.hid (Below.then_ hT.out hd)
  replace rr := Lib.hid (rr.out.below hd (Nat.le_refl _))
  replace rs := Lib.hid (rs.out.below hd (Nat.le_refl _))
  replace Y_0 := (hd.cell (World.block_lt_of_cell? _ _ Y_0)).trans Y_0
  replace Y_1 := (hd.cell (World.block_lt_of_cell? _ _ Y_1)).trans Y_1
  replace Z_0 := (hd.cell (World.block_lt_of_cell? _ _ Z_0)).trans Z_0
  replace Z_1 := (hd.cell (World.block_lt_of_cell? _ _ Z_1)).trans Z_1
  have z_Ed := hd.size; clear hd
  refine D_one (i := 1) (by kernel_rfl) rfl ?_
  intro K hK
  rw [if_pos (by rfl)]
  go_wp2_with fail
  refine (cG1.out Ed rr.out).mono ?_; rintro e X1 ⟨⟨u1, rfl, ru⟩, hN_X1⟩
  replace hT := Lib.hid (Below.then_ hT.out hN_X1)
  replace rr := Lib.hid (rr.out.below hN_X1 (Nat.le_refl _))
  replace rs := Lib.hid (rs.out.below hN_X1 (Nat.le_refl _))
  replace Y_0 := (hN_X1.cell (World.block_lt_of_cell? _ _ Y_0)).trans Y_0
  replace Y_1 := (hN_X1.cell (World.block_lt_of_cell? _ _ Y_1)).trans Y_1
  replace Z_0 := (hN_X1.cell (World.block_lt_of_cell? _ _ Z_0)).trans Z_0
  replace Z_1 := (hN_X1.cell (World.block_lt_of_cell? _ _ Z_1)).trans Z_1
  have z_X1 := hN_X1.size; clear hN_X1
  refine hK _ _ ⟨Y_0, Y_1, Z_0, Z_1⟩ (fun _ _ => trivial) ?_
  clear hK K
  try simp only [Act.put, List.getElem_toArray, List.getElem_cons_zero, List.getElem_cons_succ, List.setIfInBounds_toArray, List.set_cons_zero, List.set_cons_succ]
  replace ru := Lib.hid ru
  refine D_one (i := 3) (by kernel_rfl) rfl ?_
  intro K hK
  rw [if_pos (by rfl)]
  go_wp2_with fail
  refine (cG2.out X1 rs.out).mono ?_; rintro e X2 ⟨⟨u2, rfl, rv⟩, hN_X2⟩
  replace hT := Lib.hid (Below.then_ hT.out hN_X2)
  replace rr := Lib.hid (rr.out.below hN_X2 (Nat.le_refl _))
  replace rs := Lib.hid (rs.out.below hN_X2 (Nat.le_refl _))
  replace Y_0 := (hN_X2.cell (World.block_lt_of_cell? _ _ Y_0)).trans Y_0
  replace Y_1 := (hN_X2.cell (World.block_lt_of_cell? _ _ Y_1)).trans Y_1
  replace Z_0 := (hN_X2.cell (World.block_lt_of_cell? _ _ Z_0)).trans Z_0
  replace Z_1 := (hN_X2.cell (World.block_lt_of_cell? _ _ Z_1)).trans Z_1
  replace ru := Lib.hid (ru.out.below hN_X2 (Nat.le_refl _))
  have z_X2 := hN_X2.size; clear hN_X2
  refine hK _ _ ⟨Y_0, Y_1, Z_0, Z_1⟩ (fun _ _ => trivial) ?_
  clear hK K
  try simp only [Act.put, List.getElem_toArray, List.getElem_cons_zero, List.getElem_cons_succ, List.setIfInBounds_toArray, List.set_cons_zero, List.set_cons_succ]
  replace rv := Lib.hid rv
  refine D_take (i := 4) (v := ?_) rfl (by kernel_rfl) (by kernel_rfl) (by kernel_rfl) (by kernel_rfl) (fun _ _ _ h => h) (Or.inl ⟨by rfl, ?_⟩) ⟨Y_0, Y_1, Z_0, Z_1⟩ (fun _ => trivial) ?_
  rotate_left; · intro w1 hw1; go_simp; try with_reducible rfl
  try simp only [Act.put, List.getElem_toArray, List.getElem_cons_zero, List.getElem_cons_succ, List.setIfInBounds_toArray, List.set_cons_zero, List.set_cons_succ]
  refine D_take (i := 5) (v := ?_) rfl (by kernel_rfl) (by kernel_rfl) (by kernel_rfl) (by kernel_rfl) (fun _ _ _ h => h) (Or.inl ⟨by rfl, ?_⟩) ⟨Y_0, Y_1, Z_0, Z_1⟩ (fun _ => trivial) ?_
  rotate_left; · intro w1 hw1; go_simp; try with_reducible rfl
  try simp only [Act.put, List.getElem_toArray, List.getElem_cons_zero, List.getElem_cons_succ, List.setIfInBounds_toArray, List.set_cons_zero, List.set_cons_succ]
  refine D_done (by kernel_rfl) ?_ _
  obtain ⟨Au, du, rfl, lu1, -, lu3⟩ := ru.out.open_
  obtain ⟨Av, dv, rfl, lv1, -, lv3⟩ := rv.out.open_
  rw [firstL_len] at ru lu1 lu3 ⊢
  rw [firstL_len] at rv lv1 lv3 ⊢
  obtain ⟨bA, oA, rfl, -⟩ := lu3 0 (by omega)
  obtain ⟨bB, oB, rfl, -⟩ := lv3 0 (by omega)
  replace lu1 := Lib.hid lu1
  replace lv1 := Lib.hid lv1
  clear lu3 lv3 cG1 cG2
  go_wp2_with fail
  refine (cA.out X2 rr.out rs.out).mono ?_; rintro e X3 ⟨rfl, hN1⟩
  replace hT := Lib.hid (Below.then_ hT.out hN1)
  replace rr := Lib.hid (rr.out.below hN1 (Nat.le_refl _))
  replace rs := Lib.hid (rs.out.below hN1 (Nat.le_refl _))
  replace Y_0 := (hN1.cell (World.block_lt_of_cell? _ _ Y_0)).trans Y_0
  replace Y_1 := (hN1.cell (World.block_lt_of_cell? _ _ Y_1)).trans Y_1
  replace Z_0 := (hN1.cell (World.block_lt_of_cell? _ _ Z_0)).trans Z_0
  replace Z_1 := (hN1.cell (World.block_lt_of_cell? _ _ Z_1)).trans Z_1
  replace ru := Lib.hid (ru.out.below hN1 (Nat.le_refl _))
  replace rv := Lib.hid (rv.out.below hN1 (Nat.le_refl _))
  have z_X3 := hN1.size; clear hN1
  go_wp2_with fail
  refine (cT1.out X3 rr.out).mono ?_; rintro e X4 ⟨rfl, hN2⟩
  replace hT := Lib.hid (Below.then_ hT.out hN2)
  replace rr := Lib.hid (rr.out.below hN2 (Nat.le_refl _))
  replace rs := Lib.hid (rs.out.below hN2 (Nat.le_refl _))
  replace Y_0 := (hN2.cell (World.block_lt_of_cell? _ _ Y_0)).trans Y_0
  replace Y_1 := (hN2.cell (World.block_lt_of_cell? _ _ Y_1)).trans Y_1
  replace Z_0 := (hN2.cell (World.block_lt_of_cell? _ _ Z_0)).trans Z_0
  replace Z_1 := (hN2.cell (World.block_lt_of_cell? _ _ Z_1)).trans Z_1
  replace ru := Lib.hid (ru.out.below hN2 (Nat.le_refl _))
  replace rv := Lib.hid (rv.out.below hN2 (Nat.le_refl _))
  have z_X4 := hN2.size; clear hN2
  go_wp2_with fail
  refine (cT2.out X4 rs.out).mono ?_; rintro e X5 ⟨rfl, hN3⟩
  replace hT := Lib.hid (Below.then_ hT.out hN3)
  replace rr := Lib.hid (rr.out.below hN3 (Nat.le_refl _))
  replace rs := Lib.hid (rs.out.below hN3 (Nat.le_refl _))
  replace Y_0 := (hN3.cell (World.block_lt_of_cell? _ _ Y_0)).trans Y_0
  replace Y_1 := (hN3.cell (World.block_lt_of_cell? _ _ Y_1)).trans Y_1
  replace Z_0 := (hN3.cell (World.block_lt_of_cell? _ _ Z_0)).trans Z_0
  replace Z_1 := (hN3.cell (World.block_lt_of_cell? _ _ Z_1)).trans Z_1
  replace ru := Lib.hid (ru.out.below hN3 (Nat.le_refl _))
  replace rv := Lib.hid (rv.out.below hN3 (Nat.le_refl _))
  have z_X5 := hN3.size; clear hN3
  clear cA cT1 cT2
  have hX := Lib.hid (Below.refl X5.heap.size X5)
  have rA := Lib.hid (fun W (hW : Below X5.heap.size X5 W) => ru.out.below hW (Nat.le_refl _))
  have rB := Lib.hid (fun W (hW : Below X5.heap.size X5 W) => rv.out.below hW (Nat.le_refl _))
  have q4 := Lib.hid (fun xs v u W (h1 : RdI W v xs) (h2 : RdI W u xs) => (decide_eq_true (show xs = xs from rfl)) ▸ Equal_any xs xs v u W h1 h2)
  go_upto_region 17 with fail
  go_cut [189] (fun tt wx => tt = .bool false ∧ Hid (Below X5.heap.size X5 wx) ∧ Hid ((∀ t, termK r t = termK s t) ∨ True))
  case first =>
    rcases hap.out with ⟨i, e, hi, hne, heq⟩ | ⟨e, hall⟩
    · obtain rfl : pn = (i : Int) := by rw [hpn.out, e]
      obtain rfl : pe = 0 := by rw [hpe.out, e]
      have hal0 : al = false := by
        cases al with
        | false => rfl
        | true => exact absurd (hal.out rfl i).symm hne
      subst hal0
      refine ag_r17a r s M i x y bA oA du bB oB dv X5 _ _ _ (by rw [hM.out]; exact hi) hM7 hne heq lu1 lv1 rA rB (Lib.hid fun _ _ _ _ _ _ _ _ _ _ _ _ _ _ _ _ _ _ _ _ _ _ _ _ _ _ _ _ _ _ _ _ _ _ _ _ _ _ _ _ _ _ _ _ _ _ _ _ _ _ _ _ _ _ _ _ _ _ _ _ _ wx hB => ?_)
      go_wp2
      go_meet
      exact ⟨rfl, Lib.hid hB, Lib.hid (Or.inr trivial)⟩
    · obtain rfl : pn = 0 := by rw [hpn.out, e]
      obtain rfl : pe = 6 := by rw [hpe.out, e]
      have hxy : x = y := by rw [hx.out, hy.out, hall F]
      have e40 : firstL r 40 = firstL s 40 := first_eq hok.out oks.out (fun t _ => by unfold seqF; rw [hall t])
      have rB' := rB
      rw [← e40] at rB'
      refine ag_r17b (firstL r 40) M x y bA oA du bB oB dv X5 _ _ _ (by rw [hxy]; exact bne_self_eq_false _) rA rB' (Lib.hid fun _ _ _ _ _ _ _ _ _ _ _ _ _ _ _ _ _ _ _ _ _ _ _ _ _ _ _ _ _ _ _ _ _ _ _ _ _ _ _ _ _ _ _ _ _ _ _ _ _ _ _ _ _ _ _ _ _ _ _ _ _ wx hB => ?_)
      replace hxy := Lib.hid hxy
      go_wp2
      go_meet
      exact ⟨rfl, Lib.hid hB, Lib.hid (Or.inr trivial)⟩
  case rest =>
  obtain ⟨rfl, hE2, -⟩ := hcut
  rename World => wc0
  go_upto_if 189 with fail
  go_cut [] (fun wx => Hid (Below X5.heap.size X5 wx))
  case first =>
    go_wp2
    go_meet
    exact hE2
  case rest =>
  have hE3 := hcut
  rename World => wc
  rename (∀ (a : Act) (w : World), Code.wp _ _ _ a w → _) => hK
  refine hK _ _ ?_
  refine ag_tail19 r s m n M F g1 g2 A B A2 B2 ca cb ca2 cb2 x y bA oA _ bB oB _ w wc hok oks hm2 hn2 hM hF2 hx hy (Lib.hid (hT.out.trans (hE3.out.mono hT.out.size))) hJ (Lib.hid (rr.out.below hE3.out (Nat.le_refl _))) (Lib.hid (rs.out.below hE3.out (Nat.le_refl _))) ((hE3.out.cell (World.block_lt_of_cell? _ _ Y_0)).trans Y_0) ((hE3.out.cell (World.block_lt_of_cell? _ _ Y_1)).trans Y_1) ((hE3.out.cell (World.block_lt_of_cell? _ _ Z_0)).trans Z_0) ((hE3.out.cell (World.block_lt_of_cell? _ _ Z_1)).trans Z_1) (Lib.hid (rA.out _ hE3.out)) (Lib.hid (rB.out _ hE3.out))
end Go.Proofs.YtfljkcmijnhgkaaDoor

namespace Go.Proofs.YtfljkcmijnhgkaaDoor
open Go.RowKit Go.Shelf
set_option linter.unusedSimpArgs false
set_option maxRecDepth 1000000 in
set_option maxHeartbeats 12800000 in
theorem FieldAgree_any (od oh fr : Nat) (al : Bool) (n1 n2 : Nat) (v1 v2 : Value) (w : World) (h1 : RdB w w.heap.size v1 n1) (h2 : RdB w w.heap.size v2 n2) (hod : od < 256) (hoh : oh < 256) (hfr : fr < 18446744073709551616) (hJ : Joins w) :
    Calls Tryd.prog 8 #[v1, v2, .int .u8 od, .int .u8 oh, .int .u64 fr, .bool al] w fun e w' => e = .returned (.bool true) ∧ Below w.heap.size w w' := by
  have hA := Lib.hid (fun W (hW : Below w.heap.size w W) => awake_any W (hJ.below hW))
  have hJW := Lib.hid (fun W (hW : Below w.heap.size w W) => hJ.below hW)
  have f1 := Lib.hid (Fill_any n1 v1 w h1)
  have f2 := Lib.hid (fun W (hW : Below w.heap.size w W) => Fill_any n2 v2 W ((h2.below hW (Nat.le_refl _)).mono hW.size))
  have hT := Lib.hid (Below.refl w.heap.size w)
  obtain ⟨m, hm⟩ : ∃ m, m = od % 4 := ⟨_, rfl⟩
  have hm2 : m ≤ 3 := by omega
  have e8 : (od : Int).tmod 4 = (m : Int) := by rw [Int.tmod_eq_emod_of_nonneg (by omega)]; omega
  obtain ⟨n, hn⟩ : ∃ n, n = oh % 4 := ⟨_, rfl⟩
  have hn2 : n ≤ 3 := by omega
  have e7 : (oh : Int).tmod 4 = (n : Int) := by rw [Int.tmod_eq_emod_of_nonneg (by omega)]; omega
  replace hm := Lib.hid hm
  replace hn := Lib.hid hn
  replace hfr := Lib.hid hfr
  clear h1 h2 hJ
  go_enter Tryd.func8, Tryd.ntmps8
  go_wp2_with fail
  refine (f1.out).mono ?_; rintro e V1 ⟨rfl, hS, hN1⟩
  replace hT := Lib.hid (Below.then_ hT.out hN1)
  have z_V1 := hN1.size; clear hN1
  replace hS := Lib.hid hS
  go_wp2_with fail
  refine (rule_any w.heap.size 0 m V1 hS.out (by omega) (by omega)).mono ?_; rintro e V2 ⟨⟨a, b, xs, ys, rfl, okx, oky, oa, ob, -⟩, -, hB2⟩
  obtain ⟨r, hr⟩ : ∃ r : Rule, r = ⟨xs, ys⟩ := ⟨_, rfl⟩
  obtain ⟨rfl, rfl⟩ : xs = r.by_ ∧ ys = r.start := by rw [hr]; exact ⟨rfl, rfl⟩
  clear hr
  have hok : Hid (okR r m) := Lib.hid ⟨okx, oky⟩
  have rr0 := Lib.hid (OwnR.rd (r := r) (base := V1.heap.size) (w := V2) (v := .agg #[a, b]) ⟨a, b, rfl, oa, ob⟩ (by rw [okx.1]; omega) (by rw [oky.1]; omega))
  obtain ⟨A, ca, rfl⟩ := own_shape oa
  obtain ⟨B, cb, rfl⟩ := own_shape ob
  rw [okx.1, oky.1] at rr0
  rw [okx.1, oky.1]
  clear okx oky
  replace hT := Lib.hid (hT.out.trans ((hB2.below (by omega)).mono (by omega)))
  have z_V2 := hB2.size; clear hB2
  clear oa ob hS f1
  have hP := Lib.hid (Below.refl V2.heap.size V2)
  obtain ⟨hN2, Y_0, Y_1, Y_z⟩ := box_new V2 (.slice A m ca) (.slice B m cb) 49
  replace hT := Lib.hid (Below.then_ hT.out hN2)
  replace hP := Lib.hid (Below.then_ hP.out hN2)
  go_wp2_with fail
  generalize V2.alloc (.cells #[.slice A m ca, .slice B m cb] 49) = Y at *
  clear hN2
  refine (f2.out Y hT.out).mono ?_; rintro e V3 ⟨rfl, hS, hN3⟩
  replace hT := Lib.hid (Below.then_ hT.out hN3)
  replace hP := Lib.hid (Below.then_ hP.out hN3)
  replace Y_0 := (hN3.cell (World.block_lt_of_cell? _ _ Y_0)).trans Y_0
  replace Y_1 := (hN3.cell (World.block_lt_of_cell? _ _ Y_1)).trans Y_1
  have z_V3 := hN3.size; clear hN3
  replace hS := Lib.hid hS
  go_wp2_with fail
  have zY := Y_z
  refine (rule_any Y.heap.size 0 n V3 hS.out (by omega) (by omega)).mono ?_; rintro e V4 ⟨⟨a, b, xs, ys, rfl, okx, oky, oa, ob, -⟩, -, hB2⟩
  obtain ⟨s, hr⟩ : ∃ s : Rule, s = ⟨xs, ys⟩ := ⟨_, rfl⟩
  obtain ⟨rfl, rfl⟩ : xs = s.by_ ∧ ys = s.start := by rw [hr]; exact ⟨rfl, rfl⟩
  clear hr
  have oks : Hid (okR s n) := Lib.hid ⟨okx, oky⟩
  have rs := Lib.hid (OwnR.rd (r := s) (base := V3.heap.size) (w := V4) (v := .agg #[a, b]) ⟨a, b, rfl, oa, ob⟩ (by rw [okx.1]; omega) (by rw [oky.1]; omega))
  obtain ⟨A2, ca2, rfl⟩ := own_shape oa
  obtain ⟨B2, cb2, rfl⟩ := own_shape ob
  rw [okx.1, oky.1] at rs
  rw [okx.1, oky.1]
  clear okx oky
  replace hT := Lib.hid (hT.out.trans ((hB2.below (by omega)).mono (by omega)))
  replace hP := Lib.hid (hP.out.trans ((hB2.below (by omega)).mono (by omega)))
  replace Y_0 := hB2.cell Y_0 (by simp only []; omega)
  replace Y_1 := hB2.cell Y_1 (by simp only []; omega)
  have z_V4 := hB2.size; clear hB2
  clear oa ob hS f2
  have rR := Lib.hid (fun W (hW : Below V4.heap.size V4 W) => rr0.out.below (hP.out.trans (hW.mono hP.out.size)) (Nat.le_refl _))
  have toT := Lib.hid (fun W (hW : Below V4.heap.size V4 W) => hT.out.trans (hW.mono hT.out.size))
  have cY0 := Lib.hid (fun W (hW : Below V4.heap.size V4 W) => (hW.cell (World.block_lt_of_cell? _ _ Y_0)).trans Y_0)
  have cY1 := Lib.hid (fun W (hW : Below V4.heap.size V4 W) => (hW.cell (World.block_lt_of_cell? _ _ Y_1)).trans Y_1)
  have cG := Lib.hid (fun n (hn : n ≤ 10000) W (hW : Below V4.heap.size V4 W) => go1_low r n _ W (rR.out W hW) (by rw [hok.out.1.1, hok.out.2.1]; exact Nat.le_refl _) (by rw [hok.out.2.1]; omega) hok.out.1.2 hok.out.2.2 hn)
  clear rr0 hP hT
  have hZ := Lib.hid (Below.refl V4.heap.size V4)
  obtain ⟨hN1, S_0, S_1, S_z⟩ := box_new V4 (.slice A2 n ca2) (.slice B2 n cb2) 49
  have S_h := Lib.hid (heap_alloc_new V4 (.cells #[.slice A2 n ca2, .slice B2 n cb2] 49))
  replace hZ := Lib.hid (Below.then_ hZ.out hN1)
  replace Y_0 := (hN1.cell (World.block_lt_of_cell? _ _ Y_0)).trans Y_0
  replace Y_1 := (hN1.cell (World.block_lt_of_cell? _ _ Y_1)).trans Y_1
  go_upto_if 50 with fail
  generalize V4.alloc (.cells #[.slice A2 n ca2, .slice B2 n cb2] 49) = S at *
  clear hN1
  go_cut [] (fun wx => Hid (Below V4.heap.size V4 wx) ∧ Hid (AgCut al r V4.heap.size wx))
  case first =>
    cases al with
    | false =>
      go_wp2
      go_meet
      exact ⟨hZ, Lib.hid ⟨s, n, A2, ca2, B2, cb2, oks.out, by omega, fun e => Bool.noConfusion e, S_0, S_1, rs.out.below hZ.out (Nat.le_refl _)⟩⟩
    | true =>
      refine ag_alike r m V2.heap.size A B ca cb _ _ V4 S _ _ hok hm2 rR cY0 cY1 hZ S_z S_h (Lib.hid fun _ _ _ _ _ _ _ _ _ _ _ _ _ _ _ _ _ _ _ _ _ _ _ _ _ _ _ _ _ _ _ _ _ _ _ _ _ _ _ _ _ _ _ _ _ _ _ _ _ _ _ _ _ _ _ _ _ _ _ _ _ _ _ _ _ _ _ _ _ _ _ _ _ _ _ _ _ _ _ _ _ _ _ _ _ _ _ _ _ _ _ _ _ _ _ _ _ _ _ _ _ _ _ _ _ _ _ _ _ _ _ _ _ _ _ _ _ _ _ _ _ _ _ _ _ _ _ _ _ _ _ _ _ _ _ _ _ _ _ _ _ _ _ _ _ _ _ _ _ _ _ _ _ _ _ _ _ _ _ _ _ _ _ _ _ _ _ _ _ _ _ _ _ _ _ _ _ _ _ _ _ _ _ _ _ _ _ _ _ _ _ _ _ _ _ _ _ _ _ _ _ _ _ _ _ _ _ _ _ _ _ _ _ _ _ _ _ _ _ _ _ _ _ _ _ _ _ _ _ _ _ _ _ _ _ _ _ _ _ _ _ _ _ _ _ _ _ _ _ _ _ _ _ _ _ _ _ _ _ _ _ _ _ _ _ _ _ _ _ _ _ _ _ _ _ _ _ _ _ _ _ _ _ _ _ _ _ _ _ _ _ _ _ _ _ _ _ _ _ _ _ _ _ _ _ _ _ _ _ _ _ _ _ _ wx h1 h2 => ?_)
      go_wp2
      go_meet
      exact ⟨Lib.hid h1, Lib.hid h2⟩
  case rest =>
  obtain ⟨hZ, hcut⟩ := hcut
  rename World => wc
  obtain ⟨s', ns, As, cs, Bs, ds, oks', hns, hal, z0, z1, rs'⟩ := hcut.out
  rename (∀ (a : Act) (w : World), Code.wp _ _ _ a w → _) => hK
  refine hK _ _ ?_
  exact ag_tail11 r s' m ns fr V2.heap.size V4.heap.size al A B As Bs ca cb cs ds w wc hok (Lib.hid oks') hm2 hns (Lib.hid hal) hfr (Lib.hid (toT.out _ hZ.out)) (hJW.out w (Below.refl _ _)) (Lib.hid (rR.out _ hZ.out)) (Lib.hid rs') (cY0.out _ hZ.out) (cY1.out _ hZ.out) z0 z1
end Go.Proofs.YtfljkcmijnhgkaaDoor
