/- The pieces of FieldAgree's code. FieldAgree: the same sequence by a longer rule. -/
import Derived.Test.YtfljkcmijnhgkaaDoorKwh
import Derived.Test.YtfljkcmijnhgkaaDoorKg
import Derived.Test.YtfljkcmijnhgkaaDoorKwe
import Derived.Test.YtfljkcmijnhgkaaDoorKwg
import Derived.Test.YtfljkcmijnhgkaaDoorKf
import Derived.Test.YtfljkcmijnhgkaaDoorKu
import Derived.Test.YtfljkcmijnhgkaaDoorKi
namespace Go.Proofs.YtfljkcmijnhgkaaDoor
open Go.RowKit Go.Shelf
set_option linter.unusedSimpArgs false
def agFrom (n : Nat) : Code → Option Code
  | .seq a b => match a with
    | .region k _ _ => if k == n then some (.seq a b) else agFrom n b
    | _ => agFrom n b
  | .scope c => agFrom n c
  | .block _ c => agFrom n c
  | _ => none
def agCond (n : Nat) : Code → Option Code
  | .seq a b => match agCond n a with
    | some c => some c
    | none => agCond n b
  | .scope c => agCond n c
  | .block _ c => agCond n c
  | .cond (.tmp k) a b => if k == n then some (.cond (.tmp k) a b) else none
  | _ => none
def agReg (n : Nat) : Code → Option Code
  | .seq a b => match agReg n a with
    | some c => some c
    | none => agReg n b
  | .scope c => agReg n c
  | .block _ c => agReg n c
  | .region k o d => if k == n then some (.region k o d) else none
  | _ => none
noncomputable def agR (n : Nat) : Code := ((Tryd.f8).body.bind (agReg n)).getD .skip
noncomputable def agT (n : Nat) : Code := ((Tryd.f8).body.bind (agFrom n)).getD .skip
noncomputable def agC (n : Nat) : Code := ((Tryd.f8).body.bind (agCond n)).getD .skip
theorem termR_at {r : Rule} {k : Nat} (h : okR r k) (hk : k ≤ 12) {n : Nat} (hn : n < 18446744073709551616) : termR r (n : Int) = (termK r n, 0) := by
  have hr := h.right hk
  obtain ⟨o1, o2, o3, o4⟩ := rightR_ok hr
  rw [termR, if_neg (by simpa using hr), if_neg (by omega), Int.toNat_natCast, fromM_win o2 o3 o4 hn]
  by_cases h0 : r.by_.length = 0
  · rw [show termK r n = 0 by rw [termK, if_neg (by omega), nextT, h0]; rfl, winT, h0]; rfl
  · rw [winT_get r n (by omega)]; simp
theorem RdR.each {w : World} {a b : Value} {r : Rule} (h : RdR w (.agg #[a, b]) r) : RdI w a r.by_ ∧ RdI w b r.start := by
  obtain ⟨x, y, e, h1, h2⟩ := h
  obtain ⟨rfl, rfl⟩ : a = x ∧ b = y := by simpa using e
  exact ⟨h1, h2⟩
/-- The second rule behind the if. -/
def AgCut (al : Bool) (r : Rule) (g : Nat) (wx : World) : Prop := ∃ s ns As cs Bs ds, okR s ns ∧ ns ≤ 4 ∧ (al = true → ∀ t, termK s t = termK r t) ∧ wx.cell? ⟨g, 0, none⟩ = some (.slice As ns cs) ∧ wx.cell? ⟨g, 1, none⟩ = some (.slice Bs ns ds) ∧ RdR wx (.agg #[.slice As ns cs, .slice Bs ns ds]) s
/-- The longer rule, as it is laid. -/
def AlCut (r : Rule) (m g : Nat) (wx : World) : Prop := ∃ Ab cb Bb db, wx.heap[g]? = some (.cells #[.slice (some ⟨Ab, 0, none⟩) (m + 1) cb, .slice Bb (m + 1) db] 49 (0, 0)) ∧ OwnI wx (g + 1) (.slice (some ⟨Ab, 0, none⟩) (m + 1) cb) (alP r.by_ 0) ∧ RdI wx (.slice Bb (m + 1) db) (firstL r (m + 1)) ∧ (∀ A, Bb = some A → A.block ≠ Ab)
end Go.Proofs.YtfljkcmijnhgkaaDoor

namespace Go.Proofs.YtfljkcmijnhgkaaDoor
open Go.RowKit Go.Shelf
set_option linter.unusedSimpArgs false
set_option maxRecDepth 1000000 in
set_option maxHeartbeats 12800000 in
theorem ag_alike {c0 c1 c2 c3 c4 c5 c6 c7 c8 c9 c10 c11 c12 c15 c16 c17 c18 c19 c20 c21 c22 c23 c24 c25 c26 c27 c28 c29 c30 c31 c32 c33 c34 c35 c36 c37 c38 c39 c40 c41 c42 c43 c44 c45 c46 c47 c48 c49 c51 c52 c53 c54 c55 c56 c57 c58 c59 c60 c61 c62 c63 c64 c65 c66 c67 c68 c69 c70 c71 c72 c73 c74 c75 c76 c77 c78 c79 c80 c81 c82 c83 c84 c85 c86 c87 c88 c89 c90 c91 c92 c93 c94 c95 c96 c97 c98 c99 c100 c101 c102 c103 c104 c105 c106 c107 c108 c109 c110 c111 c112 c113 c114 c115 c116 c117 c118 c119 c120 c121 c122 c123 c124 c125 c126 c127 c128 c129 c130 c131 c132 c133 c134 c135 c136 c137 c138 c139 c140 c141 c142 c143 c144 c145 c146 c147 c148 c149 c150 c151 c152 c153 c154 c155 c156 c157 c158 c159 c160 c161 c162 c163 c164 c165 c166 c167 c168 c169 c170 c171 c172 c173 c174 c175 c176 c177 c178 c179 c180 c181 c182 c183 c184 c185 c186 c187 c188 c189 c190 c191 c192 c193 c194 c195 c196 c197 c198 c199 c200 c201 c202 c203 c204 c205 c206 c207 c208 c209 c210 c211 c212 c213 c214 c215 c216 c217 c218 c219 c220 c221 c222 c223 c224 c225 c226 c227 c228 c229 c230 c231 c232 c233 c234 c235 c236 c237 c238 c239 c240 c241 c242 c243 c244 c245 c246 c247 c248 c249 c250 c251 c252 c253 c254 c255 c256 c257 c258 c259 c260 c261 c262 c263 c264 c265 c266 c267 c268 c269 c270 c271 c272 c273 c274 c275 c276 c277 c278 c279 c280 c281 c282 c283 c284 c285 c286 c287 c288 c289 c290 c291 c292 c293 c294 c295 c296 c297 c298 c299 c300 c301 c302 c303 c304 c305 c306 c307 c308 c309 c310 c311 c312 c313 c314 c315 c316 c317 c318 c319 c320 c321 c322 c323 c324 c325 c326 c327 c328 c329 c330 c331 c332 c333 c334 c335 c336 c337 c338 c339 c340 c341 c342 c343 c344 c345 c346 c347 c348 c349 c350 c351 c352 c353 : Value} (r : Rule) (m g1 : Nat) (A B : Option Addr) (ca cb : Nat) (x0 y0 : Value) (V4 S : World) (K0 : Act → World → Prop) (post : Ending → World → Prop) (hok : Hid (okR r m)) (hm2 : m ≤ 3)
    (rR : Hid (∀ W, Below V4.heap.size V4 W → RdR W (.agg #[.slice A m ca, .slice B m cb]) r)) (cY0 : Hid (∀ W, Below V4.heap.size V4 W → W.cell? ⟨g1, 0, none⟩ = some (.slice A m ca))) (cY1 : Hid (∀ W, Below V4.heap.size V4 W → W.cell? ⟨g1, 1, none⟩ = some (.slice B m cb)))
    (hZ : Hid (Below V4.heap.size V4 S)) (S_z : V4.heap.size < S.heap.size) (S_h : Hid (S.heap[V4.heap.size]? = some (.cells #[x0, y0] 49 (0, 0))))
    (hexit : Hid (∀ (u15 u16 u38 u39 u40 u41 u42 u43 u44 u45 u46 u47 u48 u49 u50 u51 u52 u53 u54 u55 u56 u57 u58 u59 u60 u61 u62 u63 u64 u65 u66 u67 u68 u69 u70 u71 u72 u73 u74 u75 u76 u77 u78 u79 u80 u81 u82 u83 u84 u85 u86 u87 u88 u89 u90 u91 u92 u93 u94 u95 u96 u97 u98 u99 u100 u101 u102 u103 u104 u105 u106 u107 u108 u109 u110 u111 u112 u113 u114 u115 u116 u117 u118 u119 u120 u121 u122 u123 u124 u125 u126 u127 u128 u129 u130 u131 u132 u133 u134 u135 u136 u137 u138 u139 u140 u141 u142 u143 u144 u145 u146 u147 u148 u149 u150 u151 u152 u153 u154 u155 u156 u157 u158 u159 u160 u161 u162 u163 u164 u165 u166 u167 u168 u169 u170 u171 u172 u173 u174 u175 u176 u177 u178 u179 u180 u181 u182 u183 u184 u185 u186 u187 u188 u189 u190 u193 u194 u195 u196 u197 u198 u199 u200 u201 u202 u203 u204 u205 u206 u207 u208 u209 u210 u211 u212 u213 u214 u215 u216 u217 u218 u219 u220 u221 u224 u225 u226 u227 u228 u229 u230 u231 u232 u233 u234 u235 u236 u237 u238 u239 u240 u241 u242 u243 u244 u245 u246 u247 u248 u249 u250 u251 u252 u253 u254 u255 u256 u257 u258 u259 u260 u261 u262 u263 u264 u265 u266 u267 u268 u269 u270 u271 u272 u273 u274 u275 u276 u277 u278 u279 u280 u281 u282 u283 u284 u285 u286 u287 u288 u289 u290 u291 u292 u293 u294 u295 u296 u297 u298 u299 u300 u301 u302 u303 u304 u305 u306 u307 u308 u309 u310 u311 u312 u313 u314 u315 u316 u317 u318 u319 u320 u321 u322 u323 u324 u325 u326 u327 u328 u329 u330 u331 u332 u333 u334 u335 u336 u337 u338 u339 u340 u341 u342 u343 u344 u345 u346 u347 u348 u349 u350 u351 u352 u353 : Value) (wx : World), Below V4.heap.size V4 wx → AgCut true r V4.heap.size wx → K0 ⟨#[c0, c1, c2, c3, c4, c5, c6, c7, c8, c9, c10, c11, c12, .pointer (some ⟨g1, 0, none⟩), .pointer (some ⟨V4.heap.size, 0, none⟩), u15, u16, c17, c18, c19, c20, c21, c22, c23, c24, c25, c26, c27, c28, c29, c30, c31, c32, c33, c34, c35, c36, c37, u38, u39, u40, u41, u42, u43, u44, u45, u46, u47, u48, u49, u50, u51, u52, u53, u54, u55, u56, u57, u58, u59, u60, u61, u62, u63, u64, u65, u66, u67, u68, u69, u70, u71, u72, u73, u74, u75, u76, u77, u78, u79, u80, u81, u82, u83, u84, u85, u86, u87, u88, u89, u90, u91, u92, u93, u94, u95, u96, u97, u98, u99, u100, u101, u102, u103, u104, u105, u106, u107, u108, u109, u110, u111, u112, u113, u114, u115, u116, u117, u118, u119, u120, u121, u122, u123, u124, u125, u126, u127, u128, u129, u130, u131, u132, u133, u134, u135, u136, u137, u138, u139, u140, u141, u142, u143, u144, u145, u146, u147, u148, u149, u150, u151, u152, u153, u154, u155, u156, u157, u158, u159, u160, u161, u162, u163, u164, u165, u166, u167, u168, u169, u170, u171, u172, u173, u174, u175, u176, u177, u178, u179, u180, u181, u182, u183, u184, u185, u186, u187, u188, u189, u190, c191, c192, u193, u194, u195, u196, u197, u198, u199, u200, u201, u202, u203, u204, u205, u206, u207, u208, u209, u210, u211, u212, u213, u214, u215, u216, u217, u218, u219, u220, u221, c222, c223, u224, u225, u226, u227, u228, u229, u230, u231, u232, u233, u234, u235, u236, u237, u238, u239, u240, u241, u242, u243, u244, u245, u246, u247, u248, u249, u250, u251, u252, u253, u254, u255, u256, u257, u258, u259, u260, u261, u262, u263, u264, u265, u266, u267, u268, u269, u270, u271, u272, u273, u274, u275, u276, u277, u278, u279, u280, u281, u282, u283, u284, u285, u286, u287, u288, u289, u290, u291, u292, u293, u294, u295, u296, u297, u298, u299, u300, u301, u302, u303, u304, u305, u306, u307, u308, u309, u310, u311, u312, u313, u314, u315, u316, u317, u318, u319, u320, u321, u322, u323, u324, u325, u326, u327, u328, u329, u330, u331, u332, u333, u334, u335, u336, u337, u338, u339, u340, u341, u342, u343, u344, u345, u346, u347, u348, u349, u350, u351, u352, u353], []⟩ wx)) :
    Code.wp Tryd.prog (agC 50) (Exit.then K0 (bodyPost Tryd.prog Tryd.f8 post)) ⟨#[c0, c1, c2, c3, c4, c5, c6, c7, c8, c9, c10, c11, c12, .pointer (some ⟨g1, 0, none⟩), .pointer (some ⟨V4.heap.size, 0, none⟩), c15, c16, c17, c18, c19, c20, c21, c22, c23, c24, c25, c26, c27, c28, c29, c30, c31, c32, c33, c34, c35, c36, c37, c38, c39, c40, c41, c42, c43, c44, c45, c46, c47, c48, c49, .bool true, c51, c52, c53, c54, c55, c56, c57, c58, c59, c60, c61, c62, c63, c64, c65, c66, c67, c68, c69, c70, c71, c72, c73, c74, c75, c76, c77, c78, c79, c80, c81, c82, c83, c84, c85, c86, c87, c88, c89, c90, c91, c92, c93, c94, c95, c96, c97, c98, c99, c100, c101, c102, c103, c104, c105, c106, c107, c108, c109, c110, c111, c112, c113, c114, c115, c116, c117, c118, c119, c120, c121, c122, c123, c124, c125, c126, c127, c128, c129, c130, c131, c132, c133, c134, c135, c136, c137, c138, c139, c140, c141, c142, c143, c144, c145, c146, c147, c148, c149, c150, c151, c152, c153, c154, c155, c156, c157, c158, c159, c160, c161, c162, c163, c164, c165, c166, c167, c168, c169, c170, c171, c172, c173, c174, c175, c176, c177, c178, c179, c180, c181, c182, c183, c184, c185, c186, c187, c188, c189, c190, c191, c192, c193, c194, c195, c196, c197, c198, c199, c200, c201, c202, c203, c204, c205, c206, c207, c208, c209, c210, c211, c212, c213, c214, c215, c216, c217, c218, c219, c220, c221, c222, c223, c224, c225, c226, c227, c228, c229, c230, c231, c232, c233, c234, c235, c236, c237, c238, c239, c240, c241, c242, c243, c244, c245, c246, c247, c248, c249, c250, c251, c252, c253, c254, c255, c256, c257, c258, c259, c260, c261, c262, c263, c264, c265, c266, c267, c268, c269, c270, c271, c272, c273, c274, c275, c276, c277, c278, c279, c280, c281, c282, c283, c284, c285, c286, c287, c288, c289, c290, c291, c292, c293, c294, c295, c296, c297, c298, c299, c300, c301, c302, c303, c304, c305, c306, c307, c308, c309, c310, c311, c312, c313, c314, c315, c316, c317, c318, c319, c320, c321, c322, c323, c324, c325, c326, c327, c328, c329, c330, c331, c332, c333, c334, c335, c336, c337, c338, c339, c340, c341, c342, c343, c344, c345, c346, c347, c348, c349, c350, c351, c352, c353], []⟩ S := by
  conv => arg 2; whnf
  conv => arg 4; dsimp only
  let Qz : Exit → Act → World → Prop := bodyPost Tryd.prog Tryd.f8 (fun _ _ => True)
  have cG := Lib.hid (fun n (hn : n ≤ 10000) W (hW : Below V4.heap.size V4 W) => go1_low r n _ W (rR.out W hW) (by rw [hok.out.1.1, hok.out.2.1]; exact Nat.le_refl _) (by rw [hok.out.2.1]; omega) hok.out.1.2 hok.out.2.2 hn)
  obtain ⟨M, hM⟩ : ∃ M, M = m + 1 := ⟨_, rfl⟩
  have eM : (m : Int) + 1 = (M : Int) := by omega
  have eMw := Lib.hid (show IntKind.i64.wrap ((m : Int) + 1) = (M : Int) by rw [IntWalk.i64_in _ ⟨by omega, by omega⟩]; exact eM)
  have hM4 : M ≤ 4 := by omega
  replace hM := Lib.hid hM
  obtain ⟨iI, hiI, hI0, hI1, hI2⟩ := info_parts infoI
  have cC := Lib.hid (fun W (hW : Below V4.heap.size V4 W) => Clone_any r.by_ _ W (rR.out W hW).each.1 (by rw [hok.out.1.1]; omega))
  have cM := Lib.hid (cG.out M (by omega))
  have hbl := Lib.hid hok.out.1.1
  go_upto_region 4 with fail
  go_cut [] (fun wx => Hid (Below V4.heap.size V4 wx) ∧ Hid (AlCut r m V4.heap.size wx))
  case first =>
    have HS0 := hZ.out.drew
    go_wp2
    refine D_begin (fun w' => Below V4.heap.size V4 w') (fun _ => True) 99 (by kernel_rfl) ?_
    change wpAnyD _ _ _ _ _ _ _ _ _ _ S.drew
    simp only [List.size_toArray, List.length_cons, List.length_nil, Nat.reduceAdd, Array.replicate_succ, Array.replicate_zero, List.push_toArray, List.append_toArray, List.nil_append, List.cons_append]
    refine D_take (i := 0) (v := ?_) rfl (by kernel_rfl) (by kernel_rfl) (by kernel_rfl) (by kernel_rfl) (fun _ _ _ h => h) (Or.inl ⟨by rfl, ?_⟩) HS0 (fun _ => trivial) ?_
    rotate_left; · intro w1 hw1; have q0 := cY0.out w1 hw1; have q1 := cY1.out w1 hw1; have eMw' := eMw.out; go_simp; try with_reducible rfl
    try simp only [Act.put, List.getElem_toArray, List.getElem_cons_zero, List.getElem_cons_succ, List.setIfInBounds_toArray, List.set_cons_zero, List.set_cons_succ]
    refine D_take (i := 1) (v := ?_) rfl (by kernel_rfl) (by kernel_rfl) (by kernel_rfl) (by kernel_rfl) (fun _ _ _ h => h) (Or.inl ⟨by rfl, ?_⟩) HS0 (fun _ => trivial) ?_
    rotate_left; · intro w1 hw1; have q0 := cY0.out w1 hw1; have q1 := cY1.out w1 hw1; have eMw' := eMw.out; go_simp; try with_reducible rfl
    try simp only [Act.put, List.getElem_toArray, List.getElem_cons_zero, List.getElem_cons_succ, List.setIfInBounds_toArray, List.set_cons_zero, List.set_cons_succ]
    refine D_take (i := 5) (v := ?_) rfl (by kernel_rfl) (by kernel_rfl) (by kernel_rfl) (by kernel_rfl) (fun _ _ _ h => h) (Or.inl ⟨by rfl, ?_⟩) HS0 (fun _ => trivial) ?_
    rotate_left; · intro w1 hw1; have q0 := cY0.out w1 hw1; have q1 := cY1.out w1 hw1; have eMw' := eMw.out; go_simp; try with_reducible rfl
    try simp only [Act.put, List.getElem_toArray, List.getElem_cons_zero, List.getElem_cons_succ, List.setIfInBounds_toArray, List.set_cons_zero, List.set_cons_succ]
    refine D_take (i := 6) (v := ?_) rfl (by kernel_rfl) (by kernel_rfl) (by kernel_rfl) (by kernel_rfl) (fun _ _ _ h => h) (Or.inl ⟨by rfl, ?_⟩) HS0 (fun _ => trivial) ?_
    rotate_left; · intro w1 hw1; have q0 := cY0.out w1 hw1; have q1 := cY1.out w1 hw1; have eMw' := eMw.out; go_simp; try with_reducible rfl
    try simp only [Act.put, List.getElem_toArray, List.getElem_cons_zero, List.getElem_cons_succ, List.setIfInBounds_toArray, List.set_cons_zero, List.set_cons_succ]
    refine D_take (i := 7) (v := ?_) rfl (by kernel_rfl) (by kernel_rfl) (by kernel_rfl) (by kernel_rfl) (fun _ _ _ h => h) (Or.inl ⟨by rfl, ?_⟩) HS0 (fun _ => trivial) ?_
    rotate_left; · intro w1 hw1; have q0 := cY0.out w1 hw1; have q1 := cY1.out w1 hw1; have eMw' := eMw.out; go_simp; try with_reducible rfl
    try simp only [Act.put, List.getElem_toArray, List.getElem_cons_zero, List.getElem_cons_succ, List.setIfInBounds_toArray, List.set_cons_zero, List.set_cons_succ]
    refine D_take (i := 8) (v := ?_) rfl (by kernel_rfl) (by kernel_rfl) (by kernel_rfl) (by kernel_rfl) (fun _ _ _ h => h) (Or.inl ⟨by rfl, ?_⟩) HS0 (fun _ => trivial) ?_
    rotate_left; · intro w1 hw1; have q0 := cY0.out w1 hw1; have q1 := cY1.out w1 hw1; have eMw' := eMw.out; go_simp; try with_reducible rfl
    try simp only [Act.put, List.getElem_toArray, List.getElem_cons_zero, List.getElem_cons_succ, List.setIfInBounds_toArray, List.set_cons_zero, List.set_cons_succ]
    refine D_take (i := 9) (v := ?_) rfl (by kernel_rfl) (by kernel_rfl) (by kernel_rfl) (by kernel_rfl) (fun _ _ _ h => h) (Or.inl ⟨by rfl, ?_⟩) HS0 (fun _ => trivial) ?_
    rotate_left; · intro w1 hw1; have q0 := cY0.out w1 hw1; have q1 := cY1.out w1 hw1; have eMw' := eMw.out; go_simp; try with_reducible rfl
    try simp only [Act.put, List.getElem_toArray, List.getElem_cons_zero, List.getElem_cons_succ, List.setIfInBounds_toArray, List.set_cons_zero, List.set_cons_succ]
    have hd : Below S.heap.size S S.drew := (Below.refl _ _).drew
    have h_Wd : Hid (S.drew.heap[V4.heap.size]? = some (.cells #[x0, y0] 49 (0, 0))) := S_h
    have z_Wd : V4.heap.size < S.drew.heap.size := S_z
    have t_Wd := Lib.hid HS0
    clear HS0 S_h hZ S_z hd
    generalize S.drew = Wd at h_Wd z_Wd t_Wd ⊢
    refine D_two (i := 2) (j := 3) (by kernel_rfl) rfl rfl ?_ ?_
    · intro K hK
      rw [if_pos (by rfl)]
      go_wp2_with fail
      refine (cC.out Wd t_Wd.out).mono ?_; rintro e W1 ⟨⟨u, rfl, ou⟩, hb⟩
      obtain ⟨Au, cu, rfl⟩ := own_shape ou
      rw [hbl.out] at ou ⊢
      have t_W1 := Lib.hid (t_Wd.out.trans (hb.mono t_Wd.out.size))
      have z_W1 : V4.heap.size < W1.heap.size := Nat.lt_of_lt_of_le z_Wd hb.size
      have h_W1 : Hid (W1.heap[V4.heap.size]? = _) := Lib.hid ((hb.block _ z_Wd).trans h_Wd.out)
      refine hK _ _ t_W1.out (fun _ _ => trivial) ?_
      try simp only [Act.put, List.getElem_toArray, List.getElem_cons_zero, List.getElem_cons_succ, List.setIfInBounds_toArray, List.set_cons_zero, List.set_cons_succ]
      clear hK K
      refine D_one (i := 3) (by kernel_rfl) rfl ?_
      intro K hK
      rw [if_pos (by rfl)]
      go_simp
      have hb : Below W1.heap.size W1 (W1.alloc (.cells #[.int .i64 0] 3)) := (Below.refl _ _).alloc (Nat.le_refl _) _
      have t_W2 := Lib.hid (t_W1.out.trans (hb.mono t_W1.out.size))
      have z_W2 : V4.heap.size < (W1.alloc (.cells #[.int .i64 0] 3)).heap.size := Nat.lt_of_lt_of_le z_W1 hb.size
      have h_W2 : Hid ((W1.alloc (.cells #[.int .i64 0] 3)).heap[V4.heap.size]? = _) := Lib.hid ((hb.block _ z_W1).trans h_W1.out)
      have s_W2 : Hid (∀ (j : Nat) u, [.int .i64 0][j]? = some u → (W1.alloc (.cells #[.int .i64 0] 3)).cell? ((⟨W1.heap.size, 0, none⟩ : Addr).add j) = some u) := Lib.hid (cell_one_new W1 _ _)
      have r_W2 := Lib.hid ((ou.below hb).base (show V4.heap.size + 1 ≤ Wd.heap.size from z_Wd))
      refine hK _ _ t_W2.out (fun _ _ => trivial) ?_
      try simp only [Act.put, List.getElem_toArray, List.getElem_cons_zero, List.getElem_cons_succ, List.setIfInBounds_toArray, List.set_cons_zero, List.set_cons_succ]
      clear hK K
      generalize W1.alloc (.cells #[.int .i64 0] 3) = W2 at t_W2 z_W2 h_W2 s_W2 r_W2 hb ⊢
      clear ou hb h_W1
      refine D_one (i := 4) (by kernel_rfl) rfl ?_
      intro K hK
      refine step_append_lies _ (by rfl) _ _ _ (by rfl) (V4.heap.size + 1) 3 iI _ 1 8 Tryd.underlying23 hiI hI0 hI1 hI2 rfl (by omega) (.slice Au m cu) m (ints r.by_) (by rfl) (by have := r_W2.out; unfold OwnI at this; rwa [hbl.out] at this) ⟨W1.heap.size, 0, none⟩ 1 1 [.int .i64 0] (by rfl) (by rfl) s_W2.out (by simp [Value.oneCell']) (by omega) (by unfold maxLen; omega) (by omega) z_W2 W2.heap.size rfl ?_
      intro g3 cap3 W3 hown3 hgrow3 hat3 hlt3
      have hlow : Below (V4.heap.size + 1) W2 W3 := (Below.refl _ W2).grown hgrow3 z_W2 (fun q hq => (World.ownsRow.lt r_W2.out q hq).1)
      have r_W3 := own_snoc hbl.out hown3
      rw [alP_zero] at r_W3
      have r_W3' := Lib.hid r_W3
      have t_W3 := Lib.hid (t_W2.out.trans (hlow.mono (by omega)))
      have z_W3 : V4.heap.size < W3.heap.size := Nat.lt_of_lt_of_le z_W2 hlow.size
      have h_W3 : Hid (W3.heap[V4.heap.size]? = _) := Lib.hid ((hlow.block _ (by omega)).trans h_W2.out)
      clear hown3 hgrow3 hat3 hlow r_W3 r_W2 s_W2 t_W2 h_W2
      refine hK _ _ t_W3.out (fun _ _ => trivial) ?_
      try simp only [Act.put, List.getElem_toArray, List.getElem_cons_zero, List.getElem_cons_succ, List.setIfInBounds_toArray, List.set_cons_zero, List.set_cons_succ]
      clear hK K
      refine D_one (i := 10) (by kernel_rfl) rfl ?_
      intro K hK
      rw [if_pos (by rfl)]
      go_wp2_with fail
      refine (cM.out W3 t_W3.out).mono ?_; rintro e W4 ⟨⟨u, rfl, ru, hab⟩, hb⟩
      obtain ⟨Bu, du, rfl, -⟩ := ru.open_
      rw [firstL_len] at ru hab ⊢
      have t_W4 := Lib.hid (t_W3.out.trans (hb.mono t_W3.out.size))
      have z_W4 : V4.heap.size < W4.heap.size := Nat.lt_of_lt_of_le z_W3 hb.size
      have h_W4 : Hid (W4.heap[V4.heap.size]? = _) := Lib.hid ((hb.block _ z_W3).trans h_W3.out)
      have r_W4 := Lib.hid (r_W3'.out.below hb)
      have n_W4 : Hid (∀ A, Bu = some A → W3.heap.size ≤ A.block) := Lib.hid (fun A e => hab A _ _ (by rw [e]))
      replace ru := Lib.hid ru
      clear hb hab r_W3' t_W3 h_W3
      refine hK _ _ t_W4.out (fun _ _ => trivial) ?_
      try simp only [Act.put, List.getElem_toArray, List.getElem_cons_zero, List.getElem_cons_succ, List.setIfInBounds_toArray, List.set_cons_zero, List.set_cons_succ]
      clear hK K
      refine D_one (i := 11) (by kernel_rfl) rfl ?_
      intro K hK
      rw [if_pos (by rfl)]
      go_simp
      refine hK _ _ t_W4.out (fun _ _ => trivial) ?_
      try simp only [Act.put, List.getElem_toArray, List.getElem_cons_zero, List.getElem_cons_succ, List.setIfInBounds_toArray, List.set_cons_zero, List.set_cons_succ]
      clear hK K
      obtain ⟨p0, p1, p2, p3⟩ := ret_cell h_W4.out
      have hset := Lib.hid (heap_set2 (.slice (some ⟨g3, 0, none⟩) (m + 1) cap3) (.slice Bu M du) h_W4.out)
      have hbt : Btw V4.heap.size (V4.heap.size + 1) W4 ((W4.setCell ⟨V4.heap.size, 0, none⟩ (.slice (some ⟨g3, 0, none⟩) (m + 1) cap3)).setCell ⟨V4.heap.size, 1, none⟩ (.slice Bu M du)) := (btw_set W4 _).trans (btw_set _ _)
      have t_W5 := Lib.hid (t_W4.out.trans (hbt.below (by omega)))
      have r_W5 := Lib.hid (hbt.ownI r_W4.out (Nat.le_refl _))
      refine D_one (i := 12) (by kernel_rfl) rfl ?_
      intro K hK
      rw [if_pos (by rfl)]
      go_simp
      refine hK _ _ t_W5.out (fun _ _ => trivial) ?_
      try simp only [Act.put, List.getElem_toArray, List.getElem_cons_zero, List.getElem_cons_succ, List.setIfInBounds_toArray, List.set_cons_zero, List.set_cons_succ]
      clear hK K
      refine D_done (by kernel_rfl) ?_ _
      go_wp2
      go_meet
      have hru := ru.out.btw hbt (fun A l c e => .inr (by
        simp only [Value.slice.injEq] at e
        have := n_W4.out A e.1
        omega))
      obtain rfl := hM.out
      exact ⟨t_W5, Lib.hid ⟨g3, cap3, Bu, du, hset.out, r_W5.out, hru, fun A e => by have := n_W4.out A e; omega⟩⟩
    · intro K hK
      rw [if_pos (by rfl)]
      go_simp
      have hb : Below Wd.heap.size Wd (Wd.alloc (.cells #[.int .i64 0] 3)) := (Below.refl _ _).alloc (Nat.le_refl _) _
      have t_W1 := Lib.hid (t_Wd.out.trans (hb.mono t_Wd.out.size))
      have z_W1 : V4.heap.size < (Wd.alloc (.cells #[.int .i64 0] 3)).heap.size := Nat.lt_of_lt_of_le z_Wd hb.size
      have h_W1 : Hid ((Wd.alloc (.cells #[.int .i64 0] 3)).heap[V4.heap.size]? = _) := Lib.hid ((hb.block _ z_Wd).trans h_Wd.out)
      have s_W1 : Hid (∀ (j : Nat) u, [.int .i64 0][j]? = some u → (Wd.alloc (.cells #[.int .i64 0] 3)).cell? ((⟨Wd.heap.size, 0, none⟩ : Addr).add j) = some u) := Lib.hid (cell_one_new Wd _ _)
      refine hK _ _ t_W1.out (fun _ _ => trivial) ?_
      try simp only [Act.put, List.getElem_toArray, List.getElem_cons_zero, List.getElem_cons_succ, List.setIfInBounds_toArray, List.set_cons_zero, List.set_cons_succ]
      clear hK K
      generalize Wd.alloc (.cells #[.int .i64 0] 3) = W1 at t_W1 z_W1 h_W1 s_W1 hb ⊢
      refine D_one (i := 2) (by kernel_rfl) rfl ?_
      intro K hK
      clear hb
      rw [if_pos (by rfl)]
      go_wp2_with fail
      refine (cC.out W1 t_W1.out).mono ?_; rintro e W2 ⟨⟨u, rfl, ou⟩, hb⟩
      obtain ⟨Au, cu, rfl⟩ := own_shape ou
      rw [hbl.out] at ou ⊢
      have t_W2 := Lib.hid (t_W1.out.trans (hb.mono t_W1.out.size))
      have z_W2 : V4.heap.size < W2.heap.size := Nat.lt_of_lt_of_le z_W1 hb.size
      have h_W2 : Hid (W2.heap[V4.heap.size]? = _) := Lib.hid ((hb.block _ z_W1).trans h_W1.out)
      have r_W2 := Lib.hid (ou.base (show V4.heap.size + 1 ≤ W1.heap.size from z_W1))
      have s_W2 : Hid (∀ (j : Nat) u, [.int .i64 0][j]? = some u → W2.cell? ((⟨Wd.heap.size, 0, none⟩ : Addr).add j) = some u) := Lib.hid (fun j u hu => by
        have h := s_W1.out j u hu
        exact (hb.cell (World.block_lt_of_cell? W1 _ h)).trans h)
      refine hK _ _ t_W2.out (fun _ _ => trivial) ?_
      try simp only [Act.put, List.getElem_toArray, List.getElem_cons_zero, List.getElem_cons_succ, List.setIfInBounds_toArray, List.set_cons_zero, List.set_cons_succ]
      clear hK K
      clear ou hb s_W1 h_W1
      refine D_one (i := 4) (by kernel_rfl) rfl ?_
      intro K hK
      refine step_append_lies _ (by rfl) _ _ _ (by rfl) (V4.heap.size + 1) 3 iI _ 1 8 Tryd.underlying23 hiI hI0 hI1 hI2 rfl (by omega) (.slice Au m cu) m (ints r.by_) (by rfl) (by have := r_W2.out; unfold OwnI at this; rwa [hbl.out] at this) ⟨Wd.heap.size, 0, none⟩ 1 1 [.int .i64 0] (by rfl) (by rfl) s_W2.out (by simp [Value.oneCell']) (by omega) (by unfold maxLen; omega) (by omega) z_W2 W2.heap.size rfl ?_
      intro g3 cap3 W3 hown3 hgrow3 hat3 hlt3
      have hlow : Below (V4.heap.size + 1) W2 W3 := (Below.refl _ W2).grown hgrow3 z_W2 (fun q hq => (World.ownsRow.lt r_W2.out q hq).1)
      have r_W3 := own_snoc hbl.out hown3
      rw [alP_zero] at r_W3
      have r_W3' := Lib.hid r_W3
      have t_W3 := Lib.hid (t_W2.out.trans (hlow.mono (by omega)))
      have z_W3 : V4.heap.size < W3.heap.size := Nat.lt_of_lt_of_le z_W2 hlow.size
      have h_W3 : Hid (W3.heap[V4.heap.size]? = _) := Lib.hid ((hlow.block _ (by omega)).trans h_W2.out)
      clear hown3 hgrow3 hat3 hlow r_W3 r_W2 s_W2 t_W2 h_W2
      refine hK _ _ t_W3.out (fun _ _ => trivial) ?_
      try simp only [Act.put, List.getElem_toArray, List.getElem_cons_zero, List.getElem_cons_succ, List.setIfInBounds_toArray, List.set_cons_zero, List.set_cons_succ]
      clear hK K
      refine D_one (i := 10) (by kernel_rfl) rfl ?_
      intro K hK
      rw [if_pos (by rfl)]
      go_wp2_with fail
      refine (cM.out W3 t_W3.out).mono ?_; rintro e W4 ⟨⟨u, rfl, ru, hab⟩, hb⟩
      obtain ⟨Bu, du, rfl, -⟩ := ru.open_
      rw [firstL_len] at ru hab ⊢
      have t_W4 := Lib.hid (t_W3.out.trans (hb.mono t_W3.out.size))
      have z_W4 : V4.heap.size < W4.heap.size := Nat.lt_of_lt_of_le z_W3 hb.size
      have h_W4 : Hid (W4.heap[V4.heap.size]? = _) := Lib.hid ((hb.block _ z_W3).trans h_W3.out)
      have r_W4 := Lib.hid (r_W3'.out.below hb)
      have n_W4 : Hid (∀ A, Bu = some A → W3.heap.size ≤ A.block) := Lib.hid (fun A e => hab A _ _ (by rw [e]))
      replace ru := Lib.hid ru
      clear hb hab r_W3' t_W3 h_W3
      refine hK _ _ t_W4.out (fun _ _ => trivial) ?_
      try simp only [Act.put, List.getElem_toArray, List.getElem_cons_zero, List.getElem_cons_succ, List.setIfInBounds_toArray, List.set_cons_zero, List.set_cons_succ]
      clear hK K
      refine D_one (i := 11) (by kernel_rfl) rfl ?_
      intro K hK
      rw [if_pos (by rfl)]
      go_simp
      refine hK _ _ t_W4.out (fun _ _ => trivial) ?_
      try simp only [Act.put, List.getElem_toArray, List.getElem_cons_zero, List.getElem_cons_succ, List.setIfInBounds_toArray, List.set_cons_zero, List.set_cons_succ]
      clear hK K
      obtain ⟨p0, p1, p2, p3⟩ := ret_cell h_W4.out
      have hset := Lib.hid (heap_set2 (.slice (some ⟨g3, 0, none⟩) (m + 1) cap3) (.slice Bu M du) h_W4.out)
      have hbt : Btw V4.heap.size (V4.heap.size + 1) W4 ((W4.setCell ⟨V4.heap.size, 0, none⟩ (.slice (some ⟨g3, 0, none⟩) (m + 1) cap3)).setCell ⟨V4.heap.size, 1, none⟩ (.slice Bu M du)) := (btw_set W4 _).trans (btw_set _ _)
      have t_W5 := Lib.hid (t_W4.out.trans (hbt.below (by omega)))
      have r_W5 := Lib.hid (hbt.ownI r_W4.out (Nat.le_refl _))
      refine D_one (i := 12) (by kernel_rfl) rfl ?_
      intro K hK
      rw [if_pos (by rfl)]
      go_simp
      refine hK _ _ t_W5.out (fun _ _ => trivial) ?_
      try simp only [Act.put, List.getElem_toArray, List.getElem_cons_zero, List.getElem_cons_succ, List.setIfInBounds_toArray, List.set_cons_zero, List.set_cons_succ]
      clear hK K
      refine D_done (by kernel_rfl) ?_ _
      go_wp2
      go_meet
      have hru := ru.out.btw hbt (fun A l c e => .inr (by
        simp only [Value.slice.injEq] at e
        have := n_W4.out A e.1
        omega))
      obtain rfl := hM.out
      exact ⟨t_W5, Lib.hid ⟨g3, cap3, Bu, du, hset.out, r_W5.out, hru, fun A e => by have := n_W4.out A e; omega⟩⟩
  case rest =>
    obtain ⟨hZ, hcut⟩ := hcut
    rename World => W0
    obtain ⟨Ab, c3, Bb, d3, hbox, oA, rB, hne⟩ := hcut.out
    rw [← hM.out] at hbox oA rB
    obtain ⟨p0, p1, -, -⟩ := ret_cell hbox
    have q0 := cY0.out _ hZ.out
    have q1 := cY1.out _ hZ.out
    have hK0 := Lib.hid (KeptBut.refl [.slice (some ⟨Ab, 0, none⟩) M c3] W0)
    have hge := Lib.hid ((World.ownsRow.lt oA Ab rfl).1)
    obtain ⟨Ar, cr, eR, -, -, rc⟩ := (rR.out V4 (Below.refl _ _)).each.1.open_
    rw [hbl.out] at eR rc
    simp only [Value.slice.injEq, true_and] at eR
    obtain ⟨rfl, rfl⟩ := eR
    replace rc := Lib.hid rc
    have hbb : Hid (∀ k, 0 ≤ r.by_.getD k 0 ∧ r.by_.getD k 0 < 65521) := Lib.hid (fun k => getD_bd hok.out.1.2 k)
    have hpg := Lib.hid (fun k j (hj : j ≤ m) => alP_get r.by_ k (j := j) (by rw [hbl.out]; exact hj))
    have hps := Lib.hid (fun k (hk : k < m) => alP_set r.by_ (k := k) (by rw [hbl.out]; exact hk))
    replace oA := Lib.hid oA
    replace hbox := Lib.hid hbox
    replace rB := Lib.hid rB
    replace hne := Lib.hid hne
    clear hcut cC cM
    go_wp2
    go_loopw [15, 16, 66] (fun _ _ ii wr => ∃ k : Nat, k ≤ m ∧ ii = .int .i64 k ∧ Hid (KeptBut [.slice (some ⟨Ab, 0, none⟩) M c3] W0 wr) ∧ Hid (OwnI wr (V4.heap.size + 1) (.slice (some ⟨Ab, 0, none⟩) M c3) (alP r.by_ k))) (fun _ _ ii _ => m - (intOf ii).toNat)
    case atStart => exact ⟨0, Nat.zero_le _, rfl, hK0, oA⟩
    case round =>
      obtain ⟨k, hk, rfl, hK, hO⟩ := hrel
      rename World => wr
      have hle := Lib.hid (fun (u : Value) (hu : u ∈ [Value.slice (some ⟨Ab, 0, none⟩) M c3]) (g : Nat) (hg : u.ownBlock = some g) => show V4.heap.size + 1 ≤ g by
        rw [List.mem_singleton.1 hu] at hg
        have e : Ab = g := by simpa [Value.ownBlock] using hg
        have := hge.out; omega)
      have hB := Lib.hid (hZ.out.trans (hK.out.below hZ.out.size (fun u hu g hg => by have := hle.out u hu g hg; omega)))
      have hnb : Hid (∀ g, g ≤ V4.heap.size → ∀ u ∈ [Value.slice (some ⟨Ab, 0, none⟩) M c3], u.ownBlock ≠ some g) := Lib.hid (fun g hg u hu e => by have := hle.out u hu g e; omega)
      have s0 := hK.out.cell p0 (hnb.out _ (Nat.le_refl _))
      have s1 := hK.out.cell p1 (hnb.out _ (Nat.le_refl _))
      by_cases hkm : k < m
      · have k1 : (k : Int) < (m : Int) := by omega
        have k0 : (0 : Int) ≤ (k : Int) := by omega
        obtain ⟨ba, oa2, rfl, hcx⟩ := rc.out k hkm
        replace hcx := (hB.out.cell (World.block_lt_of_cell? _ _ hcx)).trans hcx
        obtain ⟨K, hKd⟩ : ∃ K, K = k + 1 := ⟨_, rfl⟩
        have eK : (k : Int) + 1 = (K : Int) := by omega
        have eKw := Lib.hid (show IntKind.i64.wrap ((k : Int) + 1) = (K : Int) by rw [IntWalk.i64_in _ ⟨by omega, by omega⟩]; exact eK)
        have K1 : (K : Int) < (M : Int) := by have := hM.out; omega
        have K0 : (0 : Int) ≤ (K : Int) := by omega
        obtain ⟨hn1, hn2'⟩ := OwnI.num hO.out (k := K) (by rw [alP_len, hbl.out]; omega)
        rw [hpg.out k K (by omega), alE, if_neg (by omega)] at hn1
        have hput := (hO.out.below (Below.refl _ _).drew).put K ((r.by_.getD K 0 + 65519 * r.by_.getD k 0) % 65521)
        rw [hKd, hps.out k hkm, ← hKd] at hput
        have hK2 := Lib.hid ((hK.out.drew).setCell (List.mem_singleton.2 rfl) (show (Value.slice (some ⟨Ab, 0, none⟩) M c3).ownBlock = some Ab from rfl) (k := K) (.int .i64 ((r.by_.getD K 0 + 65519 * r.by_.getD k 0) % 65521)))
        replace hput := Lib.hid hput
        have ⟨x1, x2⟩ := hbb.out k
        have ⟨y1, y2⟩ := hbb.out K
        clear hO hK hle hnb
        replace hKd := Lib.hid hKd
        generalize r.by_.getD k 0 = x at *
        generalize r.by_.getD K 0 = y at *
        have w5 : (y + 65519 * x).tmod 65521 = (y + 65519 * x) % 65521 := Int.tmod_eq_emod_of_nonneg (by omega)
        have w4 : IntKind.i64.wrap (65519 * x) = 65519 * x := IntWalk.i64_in _ ⟨by omega, by omega⟩
        have w3 : IntKind.i64.wrap (y + 65519 * x) = y + 65519 * x := IntWalk.i64_in _ ⟨by omega, by omega⟩
        have eKv := eKw.out
        have wK : IntKind.i64.wrap (K : Int) = (K : Int) := IntWalk.i64_in _ ⟨by omega, by omega⟩
        go_wp2
        go_still_tail 14, (by kernel_rfl)
        change wpList _ _ _ _ _ wr.drew
        replace hn1 : wr.drew.cell? _ = _ := hn1
        replace hn2' : wr.drew.frozen? _ = _ := hn2'
        clear hcx s0 s1 hB
        generalize wr.drew = wd at hn1 hn2' hput hK2 ⊢
        go_wp2
        go_roundw
        case rel => exact ⟨k + 1, by omega, by go_num, hK2, by have := hKd.out; rw [← this]; exact hput⟩
        case measure => simp [intOf]; omega
      · obtain rfl : k = m := by omega
        have k1 : ¬ (k : Int) < (k : Int) := by omega
        obtain ⟨hn1, hn2'⟩ := OwnI.num hO.out (k := 0) (by rw [alP_len]; omega)
        rw [hpg.out k 0 (by omega), alE, if_neg (by omega)] at hn1
        have hput := (hO.out.below (Below.refl _ _).drew).put 0 ((r.by_.getD 0 0 + 2) % 65521)
        rw [show alP r.by_ k = alP r.by_ r.by_.length by rw [hbl.out], alP_end] at hput
        have hK2 := Lib.hid ((hK.out.drew).setCell (List.mem_singleton.2 rfl) (show (Value.slice (some ⟨Ab, 0, none⟩) M c3).ownBlock = some Ab from rfl) (k := 0) (.int .i64 ((r.by_.getD 0 0 + 2) % 65521)))
        replace hput := Lib.hid hput
        have ⟨y1, y2⟩ := hbb.out 0
        clear hO hK hB
        generalize r.by_.getD 0 0 = y at *
        have w5 : (y + 2).tmod 65521 = (y + 2) % 65521 := Int.tmod_eq_emod_of_nonneg (by omega)
        have w3 : IntKind.i64.wrap (y + 2) = y + 2 := IntWalk.i64_in _ ⟨by omega, by omega⟩
        have hM0 : 0 < M := by have := hM.out; omega
        go_wp2
        go_still_tail 8, (by kernel_rfl)
        change wpList _ _ _ _ _ wr.drew
        replace hn1 : wr.drew.cell? _ = _ := hn1
        replace hn2' : wr.drew.frozen? _ = _ := hn2'
        clear s0 s1
        generalize wr.drew = wd at hn1 hn2' hput hK2 ⊢
        go_wp2
        have hB3 := hZ.out.trans (hK2.out.below hZ.out.size (fun u hu g hg => by have := hle.out u hu g hg; omega))
        have hal := altR_ok hok.out
        rw [← hM.out] at hal
        have h5 : (altR r).start = firstL r M := by rw [altR, hbl.out, hM.out]
        refine hexit.out _ _ _ _ _ _ _ _ _ _ _ _ _ _ _ _ _ _ _ _ _ _ _ _ _ _ _ _ _ _ _ _ _ _ _ _ _ _ _ _ _ _ _ _ _ _ _ _ _ _ _ _ _ _ _ _ _ _ _ _ _ _ _ _ _ _ _ _ _ _ _ _ _ _ _ _ _ _ _ _ _ _ _ _ _ _ _ _ _ _ _ _ _ _ _ _ _ _ _ _ _ _ _ _ _ _ _ _ _ _ _ _ _ _ _ _ _ _ _ _ _ _ _ _ _ _ _ _ _ _ _ _ _ _ _ _ _ _ _ _ _ _ _ _ _ _ _ _ _ _ _ _ _ _ _ _ _ _ _ _ _ _ _ _ _ _ _ _ _ _ _ _ _ _ _ _ _ _ _ _ _ _ _ _ _ _ _ _ _ _ _ _ _ _ _ _ _ _ _ _ _ _ _ _ _ _ _ _ _ _ _ _ _ _ _ _ _ _ _ _ _ _ _ _ _ _ _ _ _ _ _ _ _ _ _ _ _ _ _ _ _ _ _ _ _ _ _ _ _ _ _ _ _ _ _ _ _ _ _ _ _ _ _ _ _ _ _ _ _ _ _ _ _ _ _ _ _ _ _ _ _ _ _ _ _ _ _ _ _ _ _ _ _ _ _ _ _ _ _ _ _ _ _ _ _ _ _ _ _ _ _ _ _ _ _ hB3 ⟨altR r, M, _, c3, Bb, d3, hal, hM4, fun _ t => alt_seq hok.out t, hK2.out.cell p0 (hnb.out _ (Nat.le_refl _)), hK2.out.cell p1 (hnb.out _ (Nat.le_refl _)), _, _, rfl, hput.out.rd (show (altB r.by_).length ≤ _ by have := hal.1.1; rw [show (altR r).by_ = altB r.by_ from rfl] at this; omega), ?_⟩
        rw [h5]
        exact rB.out.but hK2.out (fun A l c e u hu e2 => by
          simp only [Value.slice.injEq] at e
          rw [List.mem_singleton.1 hu] at e2
          have e3 : Ab = A.block := by simpa [Value.ownBlock] using e2
          exact hne.out A e.1 e3.symm)
end Go.Proofs.YtfljkcmijnhgkaaDoor
