/- Frames A queue A range over an iterator that keeps memory of its own, and gives the elements of a list, as long as no round returns. The columns of an automaton The chosen words of a series The least automaton of a series is there, and the code makes it Layer 17 Layer 17 Layer 17 Layer 17 -/
import Derived.Test.YtlpldfocljnpnaaDoorKae
import Derived.ArgAppend
import Derived.Test.YtlpldfocljnpnaaDoorKad
set_option maxRecDepth 100000
set_option maxHeartbeats 6400000
set_option linter.unusedSimpArgs false
namespace Go.Proofs.YtlpldfocljnpnaaDoor
open Go.RowKit Go.Shelf
structure Frame (F : Nat → Prop) (w w' : World) : Prop where
 os : w'.os = w.os
 tape : w'.tape = w.tape
 output : w'.output = w.output
 size : w.heap.size ≤ w'.heap.size
 block : ∀ k, k < w.heap.size → ¬ F k → w'.heap[k]? = w.heap[k]?
namespace Frame
variable {F F' : Nat → Prop} {w w' w'' : World}
theorem refl (F : Nat → Prop) (w : World) : Frame F w w := ⟨rfl, rfl, rfl, Nat.le_refl _, fun _ _ _ => rfl⟩
theorem trans (h : Frame F w w') (k : Frame F' w' w'') (hf : ∀ k, F' k → F k ∨ w.heap.size ≤ k) : Frame F w w'' :=
 ⟨k.os.trans h.os, k.tape.trans h.tape, k.output.trans h.output, Nat.le_trans h.size k.size, fun i hi hn => (k.block i (Nat.lt_of_lt_of_le hi h.size) (fun e => by
  rcases hf i e with h | h
  ·exact hn h
  ·omega)).trans (h.block i hi hn)⟩
theorem mono (h : Frame F w w') (hf : ∀ k, F k → F' k) : Frame F' w w' := ⟨h.os, h.tape, h.output, h.size, fun k hk hn => h.block k hk (fun e => hn (hf k e))⟩
theorem of_below (h : Below w.heap.size w w') : Frame F w w' := ⟨h.os, h.tape, h.output, h.size, fun k hk _ => h.block k hk⟩
theorem then_ (h : Frame F w w') (k : Below w'.heap.size w' w'') : Frame F w w'' := h.trans (F' := F) (of_below k) fun _ h => .inl h
theorem drew (h : Frame F w w') : Frame F w w'.drew := ⟨h.os, h.tape, h.output, h.size, h.block⟩
theorem below (h : Frame F w w') {B : Nat} (hB : B ≤ w.heap.size) (hF : ∀ k, F k → B ≤ k) : Below B w w' := ⟨h.os, h.tape, h.output, h.size, fun k hk => h.block k (by omega) (fun e => by have := hF k e; omega)⟩
theorem grown {row : Option Nat} (hg : w.grownBy w' row) (hF : ∀ k, row = some k → F k) : Frame F w w' := ⟨hg.os, hg.tape, hg.output, hg.size, fun k hk hn => hg.block k hk (fun e => hn (hF k e.symm))⟩
theorem setCell (w : World) (g o : Nat) (v : Value) (hF : F g) : Frame F w (w.setCell ⟨g, o, none⟩ v) :=
 ⟨rfl, rfl, rfl, by simp [World.setCell], fun k _ hk => Below.heap_setCell _ _ _ _ (fun e => hk (by rw [show k = g from e]; exact hF))⟩
theorem heap (h : Frame F w w') {g : Nat} {o : Obj} (ho : w.heap[g]? = some o) (hn : ¬ F g) : w'.heap[g]? = some o := (h.block g (lt_of_block ho) hn).trans ho
theorem cell (h : Frame F w w') {a : Addr} {x : Value} (hc : w.cell? a = some x) (hn : ¬ F a.block) : w'.cell? a = some x :=
 (World.cell?_of_block (h.block a.block (World.block_lt_of_cell? w a hc) hn)).trans hc
theorem owns (h : Frame F w w') {base : Nat} {e : TypeId} {size : Nat} {v : Value} {n : Nat} {xs : List Value} (ho : w.ownsRow base e size v n xs) (hn : ∀ k, v.ownBlock = some k → ¬ F k) : w'.ownsRow base e size v n xs :=
 own_of_block ho fun g hg => h.block g (ho.lt g hg).2 (hn g hg)
end Frame
def RdVo (O : Nat → Prop) (w : World) (v : Value) (vs : List Value) : Prop :=
 ∃ (A : Option Addr) (c : Nat), v = .slice A vs.length c ∧ vs.length ≤ c ∧ vs.length ≤ 140737488355328 ∧
  (0 < vs.length → ∃ b off, A = some ⟨b, off, none⟩ ∧ O b ∧ ∀ j u, vs[j]? = some u → w.cell? ⟨b, off + j, none⟩ = some u)
def RdIo (O : Nat → Prop) (w : World) (v : Value) (xs : List Int) : Prop := RdVo O w v (ints xs)
theorem RdVo.rd {O : Nat → Prop} {w : World} {v : Value} {vs : List Value} (h : RdVo O w v vs) : RdV w v vs := by
 obtain ⟨A, c, e, h1, h2, h3⟩ := h
 exact ⟨A, c, e, h1, h2, fun hp => by obtain ⟨b, off, e2, _, h4⟩ := h3 hp; exact ⟨b, off, e2, h4⟩⟩
theorem RdIo.rd {O : Nat → Prop} {w : World} {v : Value} {xs : List Int} (h : RdIo O w v xs) : RdI w v xs := RdVo.rd h
theorem RdVo.keep {O O' F : Nat → Prop} {w w' : World} {v : Value} {vs : List Value} (h : RdVo O w v vs) (hf : Frame F w w') (hn : ∀ k, k < w.heap.size → O k → ¬ F k ∧ O' k) : RdVo O' w' v vs := by
 obtain ⟨A, c, e, h1, h2, h3⟩ := h
 refine ⟨A, c, e, h1, h2, fun hp => ?_⟩
 obtain ⟨b, off, e2, h5, h4⟩ := h3 hp
 have hb : b < w.heap.size := by
  have := World.block_lt_of_cell? w _ (h4 0 _ (List.getElem?_eq_getElem hp)); exact this
 exact ⟨b, off, e2, (hn b hb h5).2, fun j u hj => hf.cell (a := ⟨b, off + j, none⟩) (h4 j u hj) (hn b hb h5).1⟩
theorem RdIo.keep {O O' F : Nat → Prop} {w w' : World} {v : Value} {xs : List Int} (h : RdIo O w v xs) (hf : Frame F w w') (hn : ∀ k, k < w.heap.size → O k → ¬ F k ∧ O' k) : RdIo O' w' v xs := RdVo.keep h hf hn
theorem RdVo.of {w w' : World} {v : Value} {vs : List Value} (h : RdV w v vs) (hb : Below w.heap.size w w') {O : Nat → Prop} (hO : ∀ k, k < w.heap.size → O k) : RdVo O w' v vs := by
 obtain ⟨A, c, e, h1, h2, h3⟩ := h
 refine ⟨A, c, e, h1, h2, fun hp => ?_⟩
 obtain ⟨b, off, e2, h4⟩ := h3 hp
 have hlt : b < w.heap.size := World.block_lt_of_cell? w _ (h4 0 _ (List.getElem?_eq_getElem hp))
 exact ⟨b, off, e2, hO b hlt, fun j u hj => (hb.cell (p := ⟨b, off + j, none⟩) hlt).trans (h4 j u hj)⟩
theorem RdIo.of {w w' : World} {v : Value} {xs : List Int} (h : RdI w v xs) (hb : Below w.heap.size w w') {O : Nat → Prop} (hO : ∀ k, k < w.heap.size → O k) : RdIo O w' v xs := RdVo.of h hb hO
theorem OwnI.o {w : World} {base : Nat} {v : Value} {xs : List Int} (h : OwnI w base v xs) (hn : xs.length ≤ 140737488355328) {O : Nat → Prop} (hO : ∀ k, v.ownBlock = some k → base ≤ k → k < w.heap.size → O k) : RdIo O w v xs := by
 have h' := h
 unfold OwnI at h
 rcases h.2 with ⟨rfl, e2⟩ | ⟨g, cap, cur, rfl, hb, hg, hc, _⟩
 ·exact ⟨none, 0, by rw [ints_len, e2], by rw [ints_len]; omega, by rw [ints_len]; exact hn, fun hp => by rw [ints_len] at hp; omega⟩
 ·have hl := h'.lt g rfl
  refine ⟨_, cap, by rw [ints_len], by rw [ints_len]; exact hc, by rw [ints_len]; exact hn, fun hp => ⟨g, 0, rfl, hO g rfl hl.1 hl.2, fun j u hj => ?_⟩⟩
  rw [Nat.zero_add, h.cellAt j (by have := (List.getElem?_eq_some_iff.1 hj).1; rw [ints_len] at this; omega)]
  exact hj
section
variable {ops : Array Oper} {rest : List Oper} {o : Oper} {a : Act} {Q : Exit → Act → World → Prop} {W : World} {K : Act → World → Prop} {E : Prop}
theorem run_app1 (t e : TypeId) (i : TypeInfo) (z : Value) (size bytes : Nat) (ht : Tryd.prog.underlying t = some (.slice e)) (hi : Tryd.prog.info? e = some i) (hz : i.zero = some z) (hsize : i.size = size) (hby : i.bytes = bytes) (hzs : z.cells.size = size) (hsz : 0 < size) (hbb : bytes ≤ 1000)
  (base : Nat) (v : Value) (n : Nat) (xs : List Value) (hown : W.ownsRow base e size v n xs) (ad : Addr) (news : List Value) (hl : news.length = size)
  (hnews : ∀ j u, news[j]? = some u → W.cell? (ad.add j) = some u) (h1 : ∀ u ∈ news, u.oneCell' = true) (hn : n ≤ 1000000) (hbase : base ≤ W.heap.size) (ty : TypeId) :
  ∃ A' c' w', (Builtin.append_ #[t, t] ty #[v, .slice (some ad) 1 1]).run Tryd.prog W = .ok (.slice A' (n + 1) c') w' ∧ w'.ownsRow base e size (.slice A' (n + 1) c') (n + 1) (xs ++ news) ∧ W.grownBy w' v.ownBlock ∧ ((Value.slice A' (n + 1) c').ownBlock = v.ownBlock ∨ (Value.slice A' (n + 1) c').ownBlock = some W.heap.size) := by
 obtain ⟨v', w', hr, h2, h3, _, h5⟩ := run_append_own_at (P := Tryd.prog) W base t ty e i z size bytes ht hi hz hsize hby hzs hsz v n xs hown ad 1 1 news (by rw [hl, Nat.one_mul]) hnews h1 (by unfold maxLen; omega) (Nat.le_trans (Nat.mul_le_mul (show n + 1 ≤ 1000001 by omega) hbb) (by omega)) hbase
 obtain ⟨A', c', rfl⟩ := own_form h2
 exact ⟨A', c', w', hr, h2, h3, h5⟩
theorem wpList_app1 (hgd : o.guard = none) (s x : Operand) (t : TypeId) (ho : o.op = .call { callee := .builtin .append, args := #[s, x], argTypes := #[t, t] }) (e : TypeId) (i : TypeInfo) (z : Value) (size bytes : Nat)
  (ht : Tryd.prog.underlying t = some (.slice e)) (hi : Tryd.prog.info? e = some i) (hz : i.zero = some z) (hsize : i.size = size) (hby : i.bytes = bytes) (hzs : z.cells.size = size) (hsz : 0 < size) (hbb : bytes ≤ 1000)
  (base : Nat) (v : Value) (n : Nat) (xs : List Value) (hs : a.eval s = v) (hown : W.ownsRow base e size v n xs) (ad : Addr) (news : List Value) (hx : a.eval x = .slice (some ad) 1 1) (hl : news.length = size)
  (hnews : ∀ j u, news[j]? = some u → W.cell? (ad.add j) = some u) (h1 : ∀ u ∈ news, u.oneCell' = true) (hn : n ≤ 1000000) (hbase : base ≤ W.heap.size)
  (h : ∀ A' c' w', w'.ownsRow base e size (.slice A' (n + 1) c') (n + 1) (xs ++ news) → W.grownBy w' v.ownBlock → ((Value.slice A' (n + 1) c').ownBlock = v.ownBlock ∨ (Value.slice A' (n + 1) c').ownBlock = some W.heap.size) → wpList Tryd.prog ops Q rest (a.put o.dst (.slice A' (n + 1) c')) w') :
  wpList Tryd.prog ops Q (o :: rest) a W := by
 refine wpList_plain hgd fun K hK => ?_
 obtain ⟨A', c', w', hr, h2, h3, h4⟩ := run_app1 t e i z size bytes ht hi hz hsize hby hzs hsz hbb base v n xs hown ad news hl hnews h1 hn hbase o.type
 unfold Oper.wp execOp
 simp only [ho, resolve, invoke, builtin, Sem.run_bind, Sem.run_pure, Result.andThen_ok, List.map_toArray, List.map_cons, List.map_nil, hs, hx, hr]
 exact hK _ _ (h A' c' w' h2 h3 h4)
theorem step_app1 (hgd : o.guard = none) (s x : Operand) (t : TypeId) (ho : o.op = .call { callee := .builtin .append, args := #[s, x], argTypes := #[t, t] }) (e : TypeId) (i : TypeInfo) (z : Value) (size bytes : Nat)
  (ht : Tryd.prog.underlying t = some (.slice e)) (hi : Tryd.prog.info? e = some i) (hz : i.zero = some z) (hsize : i.size = size) (hby : i.bytes = bytes) (hzs : z.cells.size = size) (hsz : 0 < size) (hbb : bytes ≤ 1000)
  (base : Nat) (v : Value) (n : Nat) (xs : List Value) (hs : a.eval s = v) (hown : W.ownsRow base e size v n xs) (ad : Addr) (news : List Value) (hx : a.eval x = .slice (some ad) 1 1) (hl : news.length = size)
  (hnews : ∀ j u, news[j]? = some u → W.cell? (ad.add j) = some u) (h1 : ∀ u ∈ news, u.oneCell' = true) (hn : n ≤ 1000000) (hbase : base ≤ W.heap.size)
  (h : ∀ A' c' w', w'.ownsRow base e size (.slice A' (n + 1) c') (n + 1) (xs ++ news) → W.grownBy w' v.ownBlock → ((Value.slice A' (n + 1) c').ownBlock = v.ownBlock ∨ (Value.slice A' (n + 1) c').ownBlock = some W.heap.size) → K (a.put o.dst (.slice A' (n + 1) c')) w') :
  if Region.wanted o (yielded ops a.tmps) = true then Oper.wp Tryd.prog o a W K Q else E := by
 have hw : Region.wanted o (yielded ops a.tmps) = true := by simp [Region.wanted, hgd]
 rw [if_pos hw]
 obtain ⟨A', c', w', hr, h2, h3, h4⟩ := run_app1 t e i z size bytes ht hi hz hsize hby hzs hsz hbb base v n xs hown ad news hl hnews h1 hn hbase o.type
 unfold Oper.wp execOp
 simp only [ho, resolve, invoke, builtin, Sem.run_bind, Sem.run_pure, Result.andThen_ok, List.map_toArray, List.map_cons, List.map_nil, hs, hx, hr]
 exact h A' c' w' h2 h3 h4
theorem news_new (w : World) (cs : List Value) (T : TypeId) : ∀ j u, cs[j]? = some u → (w.alloc (.cells cs.toArray T)).cell? ((⟨w.heap.size, 0, none⟩ : Addr).add j) = some u := fun j u hj =>
 World.news_of_block (cs := cs.toArray) (t := T) (fr := (0, 0)) (heap_alloc_new w _) j u (by simpa using hj)
end
theorem own_snoc1 {w : World} {base n : Nat} {v : Value} {xs : List Int} {x : Int} (hn : xs.length = n) (h : w.ownsRow base 3 1 v (n + 1) (ints xs ++ [.int .i64 x])) : OwnI w base v (xs ++ [x]) := by
 unfold OwnI
 rw [List.length_append, List.length_singleton, hn, ints_append]
 exact h
end Go.Proofs.YtlpldfocljnpnaaDoor
namespace Go.Proofs.YtlpldfocljnpnaaDoor
open Go.RowKit Go.Shelf
def QRow (w : World) (base : Nat) (e : TypeId) (size : Nat) (v : Value) (n : Nat) (cs : List Value) : Prop :=
 cs.length = n * size ∧ ∃ g off cap cur, v = .slice (some ⟨g, off, none⟩) n cap ∧ base ≤ g ∧ w.heap[g]? = some (.cells cur e (0, 0)) ∧ off + cap * size ≤ cur.size ∧ n ≤ cap ∧ ∀ j u, cs[j]? = some u → w.cell? ⟨g, off + j, none⟩ = some u
namespace QRow
variable {w w' : World} {base : Nat} {e : TypeId} {size : Nat} {v : Value} {n : Nat} {cs : List Value}
theorem form (h : QRow w base e size v n cs) : ∃ g off cap, v = .slice (some ⟨g, off, none⟩) n cap ∧ base ≤ g ∧ g < w.heap.size ∧ ∀ j u, cs[j]? = some u → w.cell? ⟨g, off + j, none⟩ = some u := by
 obtain ⟨-, g, off, cap, cur, rfl, h1, h2, h3, h4, h5⟩ := h
 exact ⟨g, off, cap, rfl, h1, lt_of_block h2, h5⟩
theorem lt (h : QRow w base e size v n cs) (k : Nat) (hk : v.ownBlock = some k) : base ≤ k ∧ k < w.heap.size := by
 obtain ⟨g, off, cap, rfl, h1, h2, -⟩ := h.form
 cases hk; exact ⟨h1, h2⟩
theorem frame (h : QRow w base e size v n cs) {F : Nat → Prop} (hf : Frame F w w') (hn : ∀ k, v.ownBlock = some k → ¬ F k) : QRow w' base e size v n cs := by
 obtain ⟨h0, g, off, cap, cur, rfl, h1, h2, h3, h4, h5⟩ := h
 exact ⟨h0, g, off, cap, cur, rfl, h1, hf.heap h2 (hn g rfl), h3, h4, fun j u hj => hf.cell (a := ⟨g, off + j, none⟩) (h5 j u hj) (hn g rfl)⟩
theorem kept (h : QRow w base e size v n cs) (hb : Below w.heap.size w w') : QRow w' base e size v n cs := h.frame (F := fun _ => False) (Frame.of_below hb) (fun _ _ h => h)
theorem of_own (h : w.ownsRow base e size v n cs) (hp : v.ownBlock ≠ none) : QRow w base e size v n cs := by
 rcases h.2 with ⟨rfl, _⟩ | ⟨g, cap, cur, rfl, h1, h2, h3, _, h4, h5⟩
 ·exact absurd rfl hp
 ·refine ⟨h.1, g, 0, cap, cur, rfl, h1, h2, by omega, h3, fun j u hj => ?_⟩
  rw [Nat.zero_add, h.cellAt j (by have := (List.getElem?_eq_some_iff.1 hj).1; rw [h.1] at this; exact this)]
  exact hj
theorem tail {t : TypeId} (ht : Tryd.prog.underlying t = some (.slice (Tryd.prog.elem t))) (hs : (Tryd.prog.info? (Tryd.prog.elem t)).map (·.size) = some size) {c rest : List Value} (h : QRow w base e size v (n + 1) (c ++ rest)) (hc : c.length = size) :
  ∃ A' c', (∀ W, (Instr.slice t v (some (.int .i64 1)) none none).run Tryd.prog W = .ok (.slice A' n c') W) ∧ QRow w base e size (.slice A' n c') n rest ∧ (Value.slice A' n c').ownBlock = v.ownBlock := by
 obtain ⟨h0, g, off, cap, cur, rfl, h1, h2, h3, h4, h5⟩ := h
 have hsz : ∀ W, (sizeOf (Tryd.prog.elem t)).run Tryd.prog W = .ok size W := fun W => by
  cases hq : Tryd.prog.info? (Tryd.prog.elem t) with
  | none => simp [hq] at hs
  | some i =>
   have : i.size = size := by simpa [hq] using hs
   simp [sizeOf, typeInfo, hq, this]
 have hrun : ∀ W, (Instr.slice t (.slice (some ⟨g, off, none⟩) (n + 1) cap) (some (.int .i64 1)) none none).run Tryd.prog W = .ok (sliced (some ⟨g, off, none⟩) 1 (n + 1) cap size) W := fun W => by
  rw [run_slice_l W t (some ⟨g, off, none⟩) (n + 1) cap ht .i64 1 (by omega) (by omega), hsz]; rfl
 have h0' : (c ++ rest).length = (n + 1) * size := h0
 rw [List.length_append, hc, Nat.add_mul, Nat.one_mul] at h0'
 have hrl : rest.length = n * size := by omega
 have hrest : ∀ j u, rest[j]? = some u → w.cell? ⟨g, off + size + j, none⟩ = some u := fun j u hj => by
  have := h5 (size + j) u (by rw [List.getElem?_append_right (by omega), hc, Nat.add_sub_cancel_left]; exact hj)
  rwa [← Nat.add_assoc] at this
 by_cases hcap : cap = 1
 ·obtain rfl : n = 0 := by omega
  subst hcap
  refine ⟨some ⟨g, off, none⟩, 0, fun W => by rw [hrun W]; rfl, ⟨hrl, g, off, 0, cur, rfl, h1, h2, by omega, Nat.le_refl _, fun j u hj => ?_⟩, rfl⟩
  have hnil : rest = [] := List.eq_nil_of_length_eq_zero (by rw [hrl, Nat.zero_mul])
  rw [hnil] at hj; simp at hj
 ·refine ⟨some ⟨g, off + size, none⟩, cap - 1, fun W => ?_, ⟨hrl, g, off + size, cap - 1, cur, rfl, h1, h2, ?_, by omega, hrest⟩, rfl⟩
  ·rw [hrun W]
   simp [sliced, hcap, Addr.add_lit]
  ·obtain ⟨d, rfl⟩ : ∃ d, cap = d + 1 := ⟨cap - 1, by omega⟩
   rw [Nat.add_mul, Nat.one_mul] at h3
   rw [Nat.add_sub_cancel]; omega
theorem heap_setCells {g : Nat} {e : TypeId} {fr : Nat × Nat} : ∀ (vs : List Value) (o : Nat) (W : World) (cur : Array Value), W.heap[g]? = some (.cells cur e fr) → ∃ cur', (W.setCells g o vs).heap[g]? = some (.cells cur' e fr) ∧ cur'.size = cur.size
 | [], _, W, cur, h => ⟨cur, h, rfl⟩
 | v :: r, o, W, cur, h => by
  obtain ⟨cur', h1, h2⟩ := heap_setCells r (o + 1) (W.setCell ⟨g, o, none⟩ v) _ (heap_set1 v h)
  exact ⟨cur', h1, by rw [h2]; simp⟩
theorem app {W : World} (t : TypeId) (i : TypeInfo) (z : Value) (bytes : Nat) (ht : Tryd.prog.underlying t = some (.slice e)) (hi : Tryd.prog.info? e = some i) (hz : i.zero = some z) (hsize : i.size = size) (hby : i.bytes = bytes) (hzs : z.cells.size = size) (hsz : 0 < size) (hbb : bytes ≤ 1000)
  (h : QRow W base e size v n cs) (ad : Addr) (news : List Value) (hl : news.length = size) (hnews : ∀ j u, news[j]? = some u → W.cell? (ad.add j) = some u) (h1 : ∀ u ∈ news, u.oneCell' = true) (hn : n ≤ 1000000) (hbase : base ≤ W.heap.size) (ty : TypeId) :
  ∃ A' c' w', (Builtin.append_ #[t, t] ty #[v, .slice (some ad) 1 1]).run Tryd.prog W = .ok (.slice A' (n + 1) c') w' ∧ QRow w' base e size (.slice A' (n + 1) c') (n + 1) (cs ++ news) ∧ W.grownBy w' v.ownBlock ∧ ∀ k, (Value.slice A' (n + 1) c').ownBlock = some k → v.ownBlock = some k ∨ W.heap.size ≤ k := by
 obtain ⟨h0, g, off, cap, cur, rfl, g1, g2, g3, g4, g5⟩ := h
 have hlen : (cs ++ news).length = (n + 1) * size := by rw [List.length_append, h0, hl, Nat.add_mul, Nat.one_mul]
 by_cases hroom : n + 1 ≤ cap
 ·have hfit : off + (n * size + news.length) ≤ cur.size := by
   have : (n + 1) * size ≤ cap * size := Nat.mul_le_mul_right _ hroom
   rw [Nat.add_mul, Nat.one_mul] at this; omega
  have hc : ∀ j, j < news.length → (W.cell? ⟨g, off + n * i.size + j, none⟩).isSome = true := fun j hj => by
   rw [hsize]; unfold World.cell?; rw [g2]
   simp only []
   rw [Array.getElem?_eq_getElem (by omega)]; rfl
  have hf : ∀ j, j < news.length → W.frozen? ⟨g, off + n * i.size + j, none⟩ = false := fun j _ => by unfold World.frozen?; rw [g2]; simp
  have hr := run_append_room_cells (P := Tryd.prog) W t ty e i ht hi g off n cap ad 1 1 news (by rw [hl, Nat.one_mul, hsize]) hnews h1 hroom hc hf
  obtain ⟨cur', k1, k2⟩ := heap_setCells news (off + n * i.size) W cur g2
  have hb := Btw.setCells (lo := g) (hi := g + 1) (Nat.le_refl _) (Nat.lt_succ_self _) news (off + n * i.size) W
  refine ⟨_, _, _, hr, ⟨hlen, g, off, cap, cur', rfl, g1, k1, by omega, hroom, fun j u hj => ?_⟩, ⟨hb.os, hb.tape, hb.output, hb.size, fun k hk hne => hb.block k hk (by
   have : k ≠ g := fun e => hne (by rw [e]; rfl)
   omega)⟩, fun k hk => .inl hk⟩
  rw [hsize]
  by_cases hj2 : j < cs.length
  ·rw [List.getElem?_append_left hj2] at hj
   rw [World.cell?_setCells_out _ _ _ _ _ (fun _ _ => Or.inl (by show off + j < off + n * size; omega))]
   exact g5 j u hj
  ·rw [List.getElem?_append_right (by omega)] at hj
   have hjn := (List.getElem?_eq_some_iff.1 hj).1
   have := World.cell?_setCells_in g news (off + n * size) W (fun j hj => by rw [← hsize]; exact hc j hj) (j - cs.length) hjn
   rw [show off + n * size + (j - cs.length) = off + j by omega] at this
   rw [this, ← hj, List.getElem?_eq_getElem hjn]
 ·obtain ⟨v', w', hr, h2, h3⟩ := run_append_arg_grows (P := Tryd.prog) W t ty e i z size bytes ht hi hz hsize hby hzs hsz ⟨g, off, none⟩ n cap cs h0 (fun j u hj => by rw [Addr.add_lit]; exact g5 j u hj) ad 1 1 news (by rw [hl, Nat.one_mul]) hnews (by omega) (by unfold maxLen; omega) (Nat.le_trans (Nat.mul_le_mul (show n + 1 ≤ 1000001 by omega) hbb) (by omega))
  obtain ⟨A', c', rfl⟩ := own_form h2
  have hq := of_own h2 (fun e => by
   obtain ⟨g', c'', e2, -, -⟩ := h2.form (by omega)
   rw [e2] at e; cases e)
  obtain ⟨q0, g', off', cap', cur', e', q1, q2⟩ := hq
  exact ⟨A', c', w', hr, ⟨q0, g', off', cap', cur', e', Nat.le_trans hbase q1, q2⟩, ⟨h3.os, h3.tape, h3.output, h3.size, fun k hk _ => h3.block k hk (by simp)⟩, fun k hk => .inr (h2.lt k hk).1⟩
end QRow
theorem step_qapp {ops : Array Oper} {o : Oper} {a : Act} {K : Act → World → Prop} {Q : Exit → Act → World → Prop} {E : Prop} {W : World} (hgd : o.guard = none) (s x : Operand) (t : TypeId) (ho : o.op = .call { callee := .builtin .append, args := #[s, x], argTypes := #[t, t] }) (e : TypeId) (i : TypeInfo) (z : Value) (size bytes : Nat)
  (ht : Tryd.prog.underlying t = some (.slice e)) (hi : Tryd.prog.info? e = some i) (hz : i.zero = some z) (hsize : i.size = size) (hby : i.bytes = bytes) (hzs : z.cells.size = size) (hsz : 0 < size) (hbb : bytes ≤ 1000)
  (base : Nat) (v : Value) (n : Nat) (xs : List Value) (hs : a.eval s = v) (hown : QRow W base e size v n xs) (ad : Addr) (news : List Value) (hx : a.eval x = .slice (some ad) 1 1) (hl : news.length = size)
  (hnews : ∀ j u, news[j]? = some u → W.cell? (ad.add j) = some u) (h1 : ∀ u ∈ news, u.oneCell' = true) (hn : n ≤ 1000000) (hbase : base ≤ W.heap.size)
  (h : ∀ A' c' w', QRow w' base e size (.slice A' (n + 1) c') (n + 1) (xs ++ news) → W.grownBy w' v.ownBlock → (∀ k, (Value.slice A' (n + 1) c').ownBlock = some k → v.ownBlock = some k ∨ W.heap.size ≤ k) → K (a.put o.dst (.slice A' (n + 1) c')) w') :
  if Region.wanted o (yielded ops a.tmps) = true then Oper.wp Tryd.prog o a W K Q else E := by
 have hw : Region.wanted o (yielded ops a.tmps) = true := by simp [Region.wanted, hgd]
 rw [if_pos hw]
 obtain ⟨A', c', w', hr, h2, h3, h4⟩ := hown.app t i z bytes ht hi hz hsize hby hzs hsz hbb ad news hl hnews h1 hn hbase o.type
 unfold Oper.wp execOp
 simp only [ho, resolve, invoke, builtin, Sem.run_bind, Sem.run_pure, Result.andThen_ok, List.map_toArray, List.map_cons, List.map_nil, hs, hx, hr]
 exact h A' c' w' h2 h3 h4
open Classical in
noncomputable def minOf (p : Nat → Prop) : Nat := if h : ∃ m, p m ∧ ∀ k, p k → m ≤ k then Classical.choose h else 0
theorem min_ex {p : Nat → Prop} : ∀ (n m : Nat), m ≤ n → p m → ∃ m, p m ∧ ∀ k, p k → m ≤ k
 | 0, m, hm, h => ⟨m, h, fun k _ => by omega⟩
 | n + 1, m, hm, h => by
  by_cases he : ∃ k, p k ∧ k < m
  ·obtain ⟨k, hk, hlt⟩ := he
   exact min_ex n k (by omega) hk
  ·exact ⟨m, h, fun k hk => by
    rcases Nat.lt_or_ge k m with h2 | h2
    ·exact absurd ⟨k, hk, h2⟩ he
    ·exact h2⟩
theorem minOf_spec {p : Nat → Prop} (h : ∃ m, p m) : p (minOf p) ∧ ∀ k, p k → minOf p ≤ k := by
 obtain ⟨m, hm⟩ := h
 have he := min_ex m m (Nat.le_refl _) hm
 unfold minOf
 rw [dif_pos he]
 exact Classical.choose_spec he
theorem minOf_lt {p q : Nat → Prop} {m : Nat} (hm : q m) (hlt : m < minOf p) : minOf q < minOf p := Nat.lt_of_le_of_lt ((minOf_spec ⟨m, hm⟩).2 m hm) hlt
end Go.Proofs.YtlpldfocljnpnaaDoor
namespace Go.Proofs.YtlpldfocljnpnaaDoor
open Go.RowKit Go.Shelf
def GenR {α : Type} (P : Program) (g : Nat) (lb : Array Value) (Rd : (Nat → Prop) → World → Value → α → Prop) (all : List α) (W : World) (Ti0 Pr : Nat → Prop) (Fin : World → (Nat → Prop) → Prop) : Prop :=
 ∀ (l : Nat) (J Jx : List α → World → (Nat → Prop) → (Nat → Prop) → Prop),
  (∀ s A B Ti Ti' Tb, J s A Ti Tb → Frame Ti A B → (∀ k, Ti' k → Ti k ∨ A.heap.size ≤ k) → (∀ k, Ti' k → k < B.heap.size) → J s B Ti' Tb) →
  (∀ s A Ti Tb, J s A Ti Tb → ∀ k, Tb k → k < A.heap.size ∧ ¬ Ti k ∧ ¬ Pr k) →
  (∀ pre x u W1 Ti Tb, J pre W1 Ti Tb → (∃ t, pre ++ x :: t = all) → Rd (fun k => ¬ Ti k ∧ ¬ Tb k) W1 u x → YieldAt Fence.wide 7 P l #[u] W1 fun e W' =>
   (e = .returned (.bool true) ∧ ∃ Tb', J (pre ++ [x]) W' Ti Tb' ∧ Frame Tb W1 W' ∧ ∀ k, Tb' k → Tb k ∨ W1.heap.size ≤ k) ∨ (e = .returned (.bool false) ∧ ∃ Tb', Jx (pre ++ [x]) W' Ti Tb')) →
  ∀ Tb0, J [] W Ti0 Tb0 → CallsIn Fence.wide 8 P g (#[.func (.yield l) #[] #[]] ++ lb) W fun e W' => (∃ v, e = .returned v) ∧ ((∃ Ti Tb, J all W' Ti Tb ∧ Fin W' Ti) ∨ ∃ pre Ti Tb, Jx pre W' Ti Tb)
def roundEndA {α : Type} (I Ix : List α → World → (Nat → Prop) → (Nat → Prop) → Prop) (B : Nat) (pre : List α) (x : α) (W : World) (Ti Tb : Nat → Prop) : Exit → Act → World → Prop
 | .normal, _, W' => ∃ Tb', I (pre ++ [x]) W' Ti Tb' ∧ Frame Tb W W' ∧ ∀ k, Tb' k → Tb k ∨ W.heap.size ≤ k
 | .ret, _, W' => ∃ (Tb' F : Nat → Prop), Ix (pre ++ [x]) W' Ti Tb' ∧ Frame F W W' ∧ ∀ k, F k → Tb k ∨ k < B
 | _, _, _ => False
theorem frame_put (W : World) (l : Nat) (o : Obj) : Frame (fun k => k = l) W (W.putObj l o) :=
 have h := grownBy_putObj' W l o
 ⟨h.os, h.tape, h.output, h.size, fun k hk hn => h.block k hk (fun e => hn (Option.some.inj e))⟩
theorem wpIn_range_all {α : Type} {P : Program} {Rd : (Nat → Prop) → World → Value → α → Prop} {all : List α} {Ti0 Tb0 Pr : Nat → Prop} {Fin : World → (Nat → Prop) → Prop} {g : Operand} {p : Tmp} {assign body : Code} {Q : Exit → Act → World → Prop} {a : Act} {w : World} {gf : Nat} {lb : Array Value}
  (hg : a.eval g = .func (.func gf) #[] lb) (eg : ∀ args w, (callFunc gf args).run P w = .ok (.enter gf args) w)
  (hRd : ∀ (O O' F : Nat → Prop) (A B : World) (u : Value) (x : α), Rd O A u x → Frame F A B → (∀ k, k < A.heap.size → O k → ¬ F k ∧ O' k) → Rd O' B u x)
  (hFin : ∀ (A B : World) (F Ti : Nat → Prop), Fin A Ti → Frame F A B → (∀ k, F k → ¬ Ti k) → Fin B Ti)
  (hseq : ∀ W, W.heap.size = w.heap.size + 2 → Below w.heap.size w W → GenR P gf lb Rd all W Ti0 Pr Fin) (hTi0 : ∀ k, Ti0 k → k < w.heap.size) (hPr : ∀ k, Pr k → k < w.heap.size)
  (I Ix : List α → World → (Nat → Prop) → (Nat → Prop) → Prop)
  (hI : ∀ s A B F Ti Ti' Tb, I s A Ti Tb → Frame F A B → (∀ k, F k → Ti k ∨ k = w.heap.size ∨ k = w.heap.size + 1) → (∀ k, Ti' k → Ti k ∨ A.heap.size ≤ k) → (∀ k, Ti' k → k < B.heap.size) → I s B Ti' Tb)
  (hIx : ∀ s A B F Ti Tb, Ix s A Ti Tb → Frame F A B → (∀ k, F k → k = w.heap.size ∨ k = w.heap.size + 1) → Ix s B Ti Tb)
  (hIt : ∀ s A Ti Tb, I s A Ti Tb → ∀ k, Tb k → k < A.heap.size ∧ ¬ Ti k ∧ (k ≠ w.heap.size ∧ k ≠ w.heap.size + 1) ∧ ¬ Pr k) (h0 : I [] w Ti0 Tb0)
  (Ax : Value → Act → World → Prop) (hAx : ∀ u a' A B F, Ax u a' A → Frame F A B → (∀ k, F k → k = w.heap.size ∨ k = w.heap.size + 1) → Ax u a' B)
  (hassign : ∀ (l : Nat) (x : α) (u : Value) (W : World) (K : Act → World → Prop), w.heap.size + 2 ≤ W.heap.size → (∃ O, Rd O W u x) → (∀ a' W', Below W.heap.size W W' → Ax u a' W' → K a' W') → assign.wpIn (Fence.wide.inRound l) 7 P (Exit.then K (fun _ _ _ => False)) { tmps := a.tmps.setIfInBounds p u, defers := [] } W)
  (hbody : ∀ (l : Nat) (pre : List α) (x : α) (u : Value) (a' : Act) (W : World) (Ti Tb : Nat → Prop), I pre W Ti Tb → (∃ t, pre ++ x :: t = all) → Rd (fun k => ¬ Ti k ∧ ¬ Tb k ∧ k ≠ w.heap.size ∧ k ≠ w.heap.size + 1) W u x → Ax u a' W → w.heap.size + 2 ≤ W.heap.size → body.wpIn (Fence.wide.inRound l) 7 P (roundEndA I Ix w.heap.size pre x W Ti Tb) a' W)
  (hdone : ∀ (D : Nat) (W : World) (Ti Tb : Nat → Prop), D = w.heap.size → I all W Ti Tb → Fin W Ti → W.heap[D]? = some (.deferred (some [])) → Q .normal { a with defers := { target := .collected D, args := #[] } :: a.defers } W)
  (hstop : ∀ (D : Nat) (pre : List α) (W : World) (Ti Tb : Nat → Prop), D = w.heap.size → Ix pre W Ti Tb → W.heap[D]? = some (.deferred (some [])) → Code.ret.wpIn Fence.wide 9 P Q { a with defers := { target := .collected D, args := #[] } :: a.defers } W) :
  (Code.rangeFunc g #[p] assign body).wpIn Fence.wide 9 P Q a w := by
 refine wpIn_rangeFunc ?_
 intro fn hfn
 let rec_ : LoopState → Option Code → Loop := fun st pe => { state := st, pending := pe, fn, tmps := a.tmps, params := #[p], assign, body, defers := w.heap.size }
 have hrec : ∀ st pe, rec_ st pe = { state := st, pending := pe, fn, tmps := a.tmps, params := #[p], assign, body, defers := w.heap.size } := fun _ _ => rfl
 generalize rec_ = rc at hrec
 have hW1 : ∃ W1, (w.alloc (.deferred (some []))).alloc (.loop (rc .ready none)) = W1 ∧ W1.heap.size = w.heap.size + 2 ∧ Below w.heap.size w W1 ∧ W1.heap[w.heap.size + 1]? = some (.loop (rc .ready none)) ∧ W1.heap[w.heap.size]? = some (.deferred (some [])) := by
  refine ⟨_, rfl, by simp, ((Below.refl _ w).alloc (Nat.le_refl _) _).alloc (by simp) _, ?_, (Below.heap_alloc _ _ _ (by simp)).trans (World.alloc_heap_new w _)⟩
  have := World.alloc_heap_new (w.alloc (.deferred (some []))) (.loop (rc .ready none)); rwa [World.size_alloc] at this
 obtain ⟨W1, eW, hs1, hb1, hL1, hK1⟩ := hW1
 have hI1 : I [] W1 Ti0 Tb0 := hI _ _ _ (fun _ => False) _ _ _ h0 (Frame.of_below hb1) (fun k h => h.elim) (fun k h => .inl h) (fun k h => by have := hTi0 k h; omega)
 refine ⟨w.heap.size + 1, [{ target := .collected w.heap.size, args := #[] }], W1, { target := .fn (.func gf) lb, args := #[.func (.yield (w.heap.size + 1)) #[] #[]] }, W1, gf,
  #[.func (.yield (w.heap.size + 1)) #[] #[]] ++ lb, W1, ?_, ?_, fun _ _ => trivial, ?_, fun h => by simp [Fence.wide] at h, ?_⟩
 ·rw [← eW, hrec]; exact run_enterLoop_outer _ _ _ _ _
 ·simp only [resolve, hg]
  simp [go_sem]
 ·simp [invoke, go_sem, eg]
 refine (hseq W1 hs1 hb1 (w.heap.size + 1)
  (fun s A Ti TB => ∃ Tb, (∀ k, TB k ↔ Tb k ∨ k = w.heap.size ∨ k = w.heap.size + 1) ∧ I s A Ti Tb ∧ w.heap.size + 2 ≤ A.heap.size ∧ (¬ Ti w.heap.size ∧ ¬ Ti (w.heap.size + 1) ∧ ∀ k, Ti k → k < A.heap.size) ∧ A.heap[w.heap.size + 1]? = some (.loop (rc .ready none)) ∧ A.heap[w.heap.size]? = some (.deferred (some [])))
  (fun s A Ti TB => ∃ Tb, Ix s A Ti Tb ∧ A.heap[w.heap.size + 1]? = some (.loop (rc .done (some .ret))) ∧ A.heap[w.heap.size]? = some (.deferred (some [])))
  ?_ ?_ ?_ (fun k => Tb0 k ∨ k = w.heap.size ∨ k = w.heap.size + 1) ?_).mono ?_
 ·rintro s A B Ti Ti' TB ⟨Tb, hT, hi, hsz, ⟨hn0, hn1, hnt⟩, hl, hk⟩ hf hT' hB'
  refine ⟨Tb, hT, hI _ _ _ Ti _ _ _ hi hf (fun k h => .inl h) hT' hB', Nat.le_trans hsz hf.size, ⟨fun h => ?_, fun h => ?_, hB'⟩, hf.heap hl hn1, hf.heap hk hn0⟩
  ·rcases hT' _ h with h | h
   ·exact hn0 h
   ·omega
  ·rcases hT' _ h with h | h
   ·exact hn1 h
   ·omega
 ·rintro s A Ti TB ⟨Tb, hT, hi, hsz, ⟨hn0, hn1, hnt⟩, hl, hk⟩ k hk2
  rcases (hT k).1 hk2 with h | h | h
  ·exact ⟨(hIt _ _ _ _ hi k h).1, (hIt _ _ _ _ hi k h).2.1, (hIt _ _ _ _ hi k h).2.2.2⟩
  ·subst h; exact ⟨by omega, hn0, fun h => by have := hPr _ h; omega⟩
  ·subst h; exact ⟨by omega, hn1, fun h => by have := hPr _ h; omega⟩
 ·rintro pre x u W Ti TB ⟨Tb, hT, hi, hsz, ⟨hn0, hn1, hnt⟩, hl, hk⟩ hall hrd
  have hlt := (Array.getElem?_eq_some_iff.1 hl).1
  have hy := run_yield (P := P) (args := #[u]) hl (by rw [hrec]; rfl)
  rw [hrec] at hy
  have hz : ((#[p] : Array Tmp).zip #[u]).foldl (fun tmps (t, a) => tmps.setIfInBounds t a) a.tmps = a.tmps.setIfInBounds p (u) := by simp
  dsimp only at hy
  rw [hz] at hy
  refine ⟨fn, _, assign, body, hy, roundIn_of_wpIn hfn ?_⟩
  refine hassign (w.heap.size + 1) x u W _ hsz ⟨_, hrd⟩ ?_
  intro a' W2 hB2 hAx2
  have hl1 := heap_keep hl hB2
  have hk1 := heap_keep hk hB2
  have hlt1 := (Array.getElem?_eq_some_iff.1 hl1).1
  refine ⟨_, run_beginRound hl1 (by rw [hrec]), ?_⟩
  have hl2 : (W2.putObj (w.heap.size + 1) (.loop { rc .ready none with state := .busy })).heap[w.heap.size + 1]? = some (.loop { rc .ready none with state := .busy }) := World.putObj_heap_same hlt1
  have hk2 : (W2.putObj (w.heap.size + 1) (.loop { rc .ready none with state := .busy })).heap[w.heap.size]? = some (.deferred (some [])) := (World.putObj_heap_other (by omega)).trans hk1
  have hp2 := frame_put W2 (w.heap.size + 1) (.loop { rc .ready none with state := .busy })
  have hi2 : I pre (W2.putObj (w.heap.size + 1) (.loop { rc .ready none with state := .busy })) Ti Tb :=
   hI _ _ _ _ _ _ _ (hI _ _ _ (fun _ => False) _ _ _ hi (Frame.of_below hB2) (fun k h => h.elim) (fun k h => .inl h) (fun k h => Nat.lt_of_lt_of_le (hnt k h) hB2.size)) hp2 (fun k h => .inr (.inr h)) (fun k h => .inl h) (fun k h => by simp; exact Nat.lt_of_lt_of_le (hnt k h) hB2.size)
  have hrd2 : Rd (fun k => ¬ Ti k ∧ ¬ Tb k ∧ k ≠ w.heap.size ∧ k ≠ w.heap.size + 1) (W2.putObj (w.heap.size + 1) (.loop { rc .ready none with state := .busy })) u x := by
   refine hRd _ _ _ _ _ _ _ (hRd _ (fun k => ¬ Ti k ∧ ¬ TB k) (fun _ => False) _ _ _ _ hrd (Frame.of_below hB2) (fun k _ h => ⟨fun h => h, h⟩)) hp2 (fun k _ h => ⟨fun e => h.2 ((hT k).2 (.inr (.inr e))), h.1, fun e => h.2 ((hT k).2 (.inl e)), fun e => h.2 ((hT k).2 (.inr (.inl e))), fun e => h.2 ((hT k).2 (.inr (.inr e)))⟩)
  have hs2 := hB2.size
  have hsp : (W2.putObj (w.heap.size + 1) (.loop { rc .ready none with state := .busy })).heap.size = W2.heap.size := by simp
  have hf02 : Frame TB W (W2.putObj (w.heap.size + 1) (.loop { rc .ready none with state := .busy })) := (Frame.of_below hB2).trans hp2 (fun k e => .inl ((hT k).2 (.inr (.inr e))))
  generalize hW3 : W2.putObj (w.heap.size + 1) (.loop { rc .ready none with state := .busy }) = W3 at *
  have hAx3 : Ax u a' W3 := by rw [← hW3]; exact hAx _ _ _ _ _ hAx2 (frame_put W2 _ _) (fun k h => .inr h)
  have fin : ∀ (jump : Option Code) (W4 : World) (F : Nat → Prop), Frame F W3 W4 → (∀ k, F k → Tb k ∨ k < w.heap.size) →
    (Instr.endRound (w.heap.size + 1) jump).run P W4 = .ok (.bool jump.isNone) (W4.putObj (w.heap.size + 1) (.loop (rc (if jump.isNone then .ready else .done) jump))) ∧
    (W4.putObj (w.heap.size + 1) (.loop (rc (if jump.isNone then .ready else .done) jump))).heap[w.heap.size + 1]? = some (.loop (rc (if jump.isNone then .ready else .done) jump)) ∧
    (W4.putObj (w.heap.size + 1) (.loop (rc (if jump.isNone then .ready else .done) jump))).heap[w.heap.size]? = some (.deferred (some [])) := by
   intro jump W4 F hf hF
   have hl4 := hf.heap hl2 (fun h => (hF _ h).elim (fun h => (hIt _ _ _ _ hi2 _ h).2.2.1.2 rfl) (fun h => by omega))
   have hk4 := hf.heap hk2 (fun h => (hF _ h).elim (fun h => (hIt _ _ _ _ hi2 _ h).2.2.1.1 rfl) (fun h => by omega))
   have h := run_endRound (P := P) jump hl4
   refine ⟨?_, World.putObj_heap_same (Array.getElem?_eq_some_iff.1 hl4).1, (World.putObj_heap_other (by omega)).trans hk4⟩
   rw [h, hrec, hrec]
  refine wpIn_mono (hbody _ pre x u a' _ _ _ hi2 hall hrd2 hAx3 (by omega)) ?_
  rintro e a3 W4 hp
  cases e with
  | normal =>
   obtain ⟨Tb', hi4, hf4, hT4⟩ := hp
   obtain ⟨hr, hl5, hk5⟩ := fin none W4 Tb hf4 (fun k h => .inl h)
   have hp5 := frame_put W4 (w.heap.size + 1) (.loop (rc (if (none : Option Code).isNone then .ready else .done) none))
   refine ⟨_, _, hr, .inl ⟨rfl, fun k => Tb' k ∨ k = w.heap.size ∨ k = w.heap.size + 1, ⟨Tb', fun k => Iff.rfl, hI _ _ _ _ _ _ _ hi4 hp5 (fun k h => .inr (.inr h)) (fun k h => .inl h) (fun k h => by have := hnt k h; have := hf4.size; have := hp5.size; omega), by have := hf4.size; have := hp5.size; omega, ⟨hn0, hn1, fun k h => by have := hnt k h; have := hf4.size; have := hp5.size; omega⟩, hl5, hk5⟩,
    (hf02.trans hf4 (fun k h => .inl ((hT k).2 (.inl h)))).trans hp5 (fun k h => .inl ((hT k).2 (.inr (.inr h)))), fun k h => ?_⟩⟩
   rcases h with h | h
   ·rcases hT4 k h with h | h
    ·exact .inl ((hT k).2 (.inl h))
    ·exact .inr (by omega)
   ·exact .inl ((hT k).2 (.inr h))
  | ret =>
   obtain ⟨Tb', F, hi4, hf4, hF4⟩ := hp
   obtain ⟨hr, hl5, hk5⟩ := fin (some .ret) W4 F hf4 hF4
   exact ⟨_, _, hr, .inr ⟨rfl, fun _ => False, Tb', hIx _ _ _ _ _ _ hi4 (frame_put W4 (w.heap.size + 1) _) (fun k h => .inr h), hl5, hk5⟩⟩
  | exit i => exact hp.elim
  | goto t => exact hp.elim
  | panic ch => exact hp.elim
  | outgrown => exact hp.elim
 ·exact ⟨Tb0, fun k => Iff.rfl, hI1, by omega, ⟨fun h => by have := hTi0 _ h; omega, fun h => by have := hTi0 _ h; omega, fun k h => by have := hTi0 k h; omega⟩, hL1, hK1⟩
 ·rintro e W2 ⟨⟨v, rfl⟩, ⟨Ti, TB, ⟨Tb, hT, hi, hsz, ⟨hn0, hn1, hnt⟩, hl, hk⟩, hfin⟩ | ⟨pre, Ti, TB, Tb, hi, hl, hk⟩⟩
  ·have h := run_endLoop (P := P) hl (by rw [hrec]; simp)
   rw [hrec] at h
   exact ⟨none, _, h, hdone _ _ _ _ rfl (hI _ _ _ _ _ _ _ hi (frame_put W2 (w.heap.size + 1) _) (fun k h => .inr (.inr h)) (fun k h => .inl h) (fun k h => by have := hnt k h; simp; omega)) (hFin _ _ _ _ hfin (frame_put W2 (w.heap.size + 1) _) (fun k h hT => hn1 (by rw [← show k = w.heap.size + 1 from h]; exact hT))) ((World.putObj_heap_other (by omega)).trans hk)⟩
  ·have h := run_endLoop (P := P) hl (by rw [hrec]; simp)
   rw [hrec] at h
   exact ⟨some .ret, _, h, hstop _ _ _ _ _ rfl (hIx _ _ _ _ _ _ hi (frame_put W2 (w.heap.size + 1) _) (fun k h => .inr h)) ((World.putObj_heap_other (by omega)).trans hk)⟩
end Go.Proofs.YtlpldfocljnpnaaDoor
namespace Go.Proofs.YtlpldfocljnpnaaDoor
def SumOf (l : List (List Int)) (x : List Int) : Prop := InSp (rowsF l) l.length (rowF x)
theorem SumOf.more {l : List (List Int)} {x : List Int} (h : SumOf l x) (t : List (List Int)) : SumOf (l ++ t) x := by
 induction t generalizing l with
 | nil => rwa [List.append_nil]
 | cons y t ih =>
  rw [show l ++ y :: t = (l ++ [y]) ++ t by simp]
  refine ih ?_
  obtain ⟨c, hc⟩ := h
  refine ⟨fun k => if k < l.length then c k else 0, fun j => ?_⟩
  rw [List.length_append, List.length_singleton, S]
  show rowF x j = S l.length (fun k => (if k < l.length then c k else 0) * rowsF (l ++ [y]) k j) + (if l.length < l.length then c l.length else 0) * rowsF (l ++ [y]) l.length j
  rw [if_neg (Nat.lt_irrefl _), hc j, S_congr (f := fun k => (if k < l.length then c k else 0) * rowsF (l ++ [y]) k j) (g := fun k => c k * rowsF l k j) (fun k hk => by rw [if_pos hk, rowsF_snoc_left hk])]; grind
theorem SumOf.last (l : List (List Int)) (x : List Int) : SumOf (l ++ [x]) x :=
 ⟨fun k => if k = l.length then 1 else 0, fun j => by
  rw [List.length_append, List.length_singleton, S]
  show rowF x j = S l.length (fun k => (if k = l.length then (1 : Fp) else 0) * rowsF (l ++ [x]) k j) + (if l.length = l.length then (1 : Fp) else 0) * rowsF (l ++ [x]) l.length j
  rw [if_pos rfl, rowsF_snoc_last, S_zero (fun k hk => by rw [if_neg (by omega)]; grind)]; grind⟩
def kidsC (a : Aut) (c : List Int) : List (List Int) := a.steps.map fun m => backL m c
def newC (out : List (List Int)) (c : List Int) : Bool := (madeL out c).isNone
def ColsOf (a : Aut) (cols : List (List Int)) : Prop := Bfs newC (kidsC a) [] [a.end_] cols
theorem SumOf.back {l r : List (List Int)} {m : List (List Int)} {x : List Int} {N : Nat} (hm : okM m N N) (h : SumOf l x) (h0 : ∀ y ∈ l, SumOf r (backL m y)) : SumOf r (backL m x) := by
 obtain ⟨c, hc⟩ := h
 have hl : m.length = N := hm.1
 have h1 : InSp (fun k => rowF (backL m (l.getD k []))) l.length (rowF (backL m x)) := ⟨c, fun i => by
  by_cases hi : i < N
  ·have hi' : i < m.length := by omega
   rw [backL_F hi', S_congr (f := fun k => c k * rowF (backL m (l.getD k [])) i) (g := fun k => S (m[i]).length (fun j => c k * (rowsF m i j * rowsF l k j))) (fun k _ => by rw [backL_F hi', ← S_mul]; rfl), S_swap]
   refine S_congr fun j _ => ?_
   rw [hc j, ← S_mul]
   exact S_congr fun k _ => by grind
  ·rw [rowF_out (backL_len m x) (by omega), S_zero fun k _ => by
    show c k * rowF (backL m (l.getD k [])) i = 0
    rw [rowF_out (backL_len m _) (by omega)]; grind]⟩
 refine h1.trans fun k hk => ?_
 rw [show l.getD k [] = l[k] by rw [List.getD_eq_getElem?_getD, List.getElem?_eq_getElem hk]; rfl]
 exact h0 _ (List.getElem_mem hk)
theorem newC_false {out : List (List Int)} {c : List Int} {N : Nat} (h : okRows out N) (hc : c.length = N) (hb : ∀ u ∈ c, 0 ≤ u ∧ u < 65521) : newC out c = false ↔ SumOf out c := by
 unfold newC SumOf
 rw [← madeL_some h hc hb]
 cases madeL out c <;> simp
theorem cols_all {a : Aut} {k n : Nat} (ok : okA a k n) {cols : List (List Int)} (h : ColsOf a cols) : okRows cols n ∧ SumOf cols a.end_ ∧ ∀ c ∈ cols, ∀ m ∈ a.steps, SumOf cols (backL m c) := by
 have hc := h.covers (P := SumOf) (inv := fun out => okRows out n) (good := fun c => c.length = n ∧ ∀ u ∈ c, 0 ≤ u ∧ u < 65521)
  (fun c _ x hx => by
   obtain ⟨m, hm, rfl⟩ := List.mem_map.1 hx
   exact ⟨(backL_len _ _).trans (ok.mats m hm).1, backL_bd _ _⟩)
  (fun out c h0 hc _ x hx => by
   rcases List.mem_append.1 hx with hx | hx
   ·exact h0 x hx
   ·rw [List.mem_singleton.1 hx]; exact hc)
  (fun out t c h => h.more t) (fun out c => SumOf.last out c)
  (fun out c h0 hc e => (newC_false h0 hc.1 hc.2).1 e)
  (fun x hx => by cases hx) (fun c hc => by rw [List.mem_singleton.1 hc]; exact ok.end_)
 obtain ⟨h1, h2, t, h3, h4⟩ := hc
 rw [List.nil_append] at h3
 subst h3
 exact ⟨h1, h2 _ (List.mem_singleton.2 rfl), fun c hc m hm => (h4 c hc).2 _ (List.mem_map.2 ⟨m, hm, rfl⟩)⟩
end Go.Proofs.YtlpldfocljnpnaaDoor
namespace Go.Proofs.YtlpldfocljnpnaaDoor
theorem snoc_ind {α : Type} {P : List α → Prop} (h0 : P []) (hs : ∀ w x, P w → P (w ++ [x])) (w : List α) : P w := by
 have h : ∀ r : List α, P r.reverse := fun r => by
  induction r with
  | nil => exact h0
  | cons x r ih => rw [List.reverse_cons]; exact hs _ _ ih
 have h1 := h w.reverse
 rwa [List.reverse_reverse] at h1
def InX {X : Type} (fam : Nat → X → Fp) (d : Nat) (row : X → Fp) : Prop := ∃ x : Nat → Fp, ∀ j, row j = S d (fun k => x k * fam k j)
def hank (f : List Nat → Fp) (w v : List Nat) : Fp := f (w ++ v)
def famH (f : List Nat → Fp) (ws : List (List Nat)) (k : Nat) : List Nat → Fp := hank f (ws.getD k [])
open Classical in
noncomputable def newH (f : List Nat → Fp) (ws : List (List Nat)) (w : List Nat) : Bool := decide (¬ InX (famH f ws) ws.length (hank f w))
theorem newH_true {f : List Nat → Fp} {ws : List (List Nat)} {w : List Nat} : newH f ws w = true ↔ ¬ InX (famH f ws) ws.length (hank f w) := by unfold newH; simp
theorem newH_false {f : List Nat → Fp} {ws : List (List Nat)} {w : List Nat} : newH f ws w = false ↔ InX (famH f ws) ws.length (hank f w) := by unfold newH; simp
def kidsH (K : Nat) (w : List Nat) : List (List Nat) := (List.range K).map fun a => w ++ [a]
def ChosenOf (f : List Nat → Fp) (K : Nat) (ws : List (List Nat)) : Prop := Bfs (newH f) (kidsH K) [] [[]] ws
def colW (a : Aut) (v : List Nat) : List Int := v.foldr (fun x c => backL (a.steps.getD x []) c) a.end_
def serA (a : Aut) (w : List Nat) : Fp := toF (wtW a w)
theorem rowW_append (a : Aut) (w v : List Nat) : rowW a (w ++ v) = v.foldl (fun r x => alongL a.start.length r (a.steps.getD x [])) (rowW a w) := by
 rw [rowW, List.foldl_append]; rfl
theorem dotL_nil (r : List Int) : dotL r [] = 0 := by
 refine toF_inj (dotL_bd _ _) ⟨Int.le_refl _, by decide⟩ ?_
 rw [dotL_F, S_zero fun i _ => by rw [show rowF [] i = 0 from rfl]; grind]; rfl
theorem alongL_nil_F (n : Nat) (r : List Int) (j : Nat) : rowF (alongL n r []) j = 0 := by
 by_cases hj : j < n
 ·rw [alongL_F hj]; rfl
 ·exact rowF_out (alongL_len n r []) (by omega)
theorem along_back' {a : Aut} {k n : Nat} (ok : okA a k n) {row col : List Int} (hr : row.length = n) (x : Nat) : dotL (alongL n row (a.steps.getD x [])) col = dotL row (backL (a.steps.getD x []) col) := by
 by_cases hx : x < a.steps.length
 ·rw [List.getD_eq_getElem?_getD, List.getElem?_eq_getElem hx]
  exact along_back hr (ok.mats _ (List.getElem_mem hx))
 ·rw [List.getD_eq_getElem?_getD, List.getElem?_eq_none (by omega)]
  show dotL (alongL n row []) col = dotL row (backL [] col)
  rw [show backL [] col = [] from rfl, dotL_nil]
  refine toF_inj (dotL_bd _ _) ⟨Int.le_refl _, by decide⟩ ?_
  rw [dotL_F, S_zero fun i _ => by rw [alongL_nil_F]; grind]; rfl
theorem rowW_len {a : Aut} {k n : Nat} (ok : okA a k n) (w : List Nat) : (rowW a w).length = n := by
 refine snoc_ind (P := fun w => (rowW a w).length = n) ok.start.1 (fun w x _ => ?_) w
 rw [rowW_snoc, alongL_len]; exact ok.start.1
theorem rowW_bd {a : Aut} {k n : Nat} (ok : okA a k n) (w : List Nat) : ∀ u ∈ rowW a w, 0 ≤ u ∧ u < 65521 := by
 refine snoc_ind (P := fun w => ∀ u ∈ rowW a w, 0 ≤ u ∧ u < 65521) ok.start.2 (fun w x _ => ?_) w
 rw [rowW_snoc]; exact alongL_bd _ _ _
theorem fold_dot {a : Aut} {k n : Nat} (ok : okA a k n) : ∀ (v : List Nat) (row : List Int), row.length = n → dotL (v.foldl (fun r x => alongL a.start.length r (a.steps.getD x [])) row) a.end_ = dotL row (colW a v)
 | [], row, _ => rfl
 | x :: v, row, hr => by
  have hn := ok.start.1
  rw [List.foldl_cons, fold_dot ok v _ (by rw [alongL_len, hn]), hn, along_back' ok hr]; rfl
theorem wtW_cut {a : Aut} {k n : Nat} (ok : okA a k n) (w v : List Nat) : wtW a (w ++ v) = dotL (rowW a w) (colW a v) := by
 rw [wtW, rowW_append]; exact fold_dot ok v _ (rowW_len ok w)
theorem SumOf.nil (l : List (List Int)) : SumOf l [] := ⟨fun _ => 0, fun j => by rw [S_zero fun k _ => by grind]; rfl⟩
theorem colW_sum {a : Aut} {k n : Nat} (ok : okA a k n) {cols : List (List Int)} (h : ColsOf a cols) (v : List Nat) : SumOf cols (colW a v) := by
 obtain ⟨h1, h2, h3⟩ := cols_all ok h
 induction v with
 | nil => exact h2
 | cons x v ih =>
  show SumOf cols (backL (a.steps.getD x []) (colW a v))
  by_cases hx : x < a.steps.length
  ·rw [List.getD_eq_getElem?_getD, List.getElem?_eq_getElem hx]
   exact SumOf.back (ok.mats _ (List.getElem_mem hx)) ih fun y hy => h3 y hy _ (List.getElem_mem hx)
  ·rw [List.getD_eq_getElem?_getD, List.getElem?_eq_none (by omega)]; exact SumOf.nil _
theorem cols_word {a : Aut} {cols : List (List Int)} (h : ColsOf a cols) : ∀ c ∈ cols, ∃ v, c = colW a v := by
 have hc := h.covers (P := fun _ _ => True) (inv := fun _ => True) (good := fun c => ∃ v, c = colW a v)
  (fun c hg x hx => by
   obtain ⟨v, rfl⟩ := hg
   obtain ⟨m, hm, rfl⟩ := List.mem_map.1 hx
   obtain ⟨i, hi, rfl⟩ := List.getElem_of_mem hm
   exact ⟨i :: v, by show _ = backL (a.steps.getD i []) (colW a v); rw [List.getD_eq_getElem?_getD, List.getElem?_eq_getElem hi]; rfl⟩)
  (fun _ _ _ _ _ => trivial) (fun _ _ _ _ => trivial) (fun _ _ => trivial) (fun _ _ _ _ _ => trivial) trivial
  (fun c hc => ⟨[], List.mem_singleton.1 hc⟩)
 obtain ⟨-, -, t, h3, h4⟩ := hc
 rw [List.nil_append] at h3
 subst h3
 exact fun c hc => (h4 c hc).1
def seenL (cols : List (List Int)) (row : List Int) : List Int := cols.map fun c => dotL row c
theorem seenL_len (cols : List (List Int)) (row : List Int) : (seenL cols row).length = cols.length := by simp [seenL]
theorem seenL_bd (cols : List (List Int)) (row : List Int) : ∀ u ∈ seenL cols row, 0 ≤ u ∧ u < 65521 := fun u hu => by
 obtain ⟨c, _, rfl⟩ := List.mem_map.1 hu; exact dotL_bd _ _
theorem seenL_F {cols : List (List Int)} {row : List Int} {j : Nat} (hj : j < cols.length) : rowF (seenL cols row) j = toF (dotL row cols[j]) := by
 unfold rowF
 rw [seenL, List.getD_eq_getElem?_getD, List.getElem?_map, List.getElem?_eq_getElem hj]; rfl
theorem dot_sum {l : List (List Int)} {x : List Int} (c : Nat → Fp) (hc : ∀ j, rowF x j = S l.length (fun k => c k * rowsF l k j)) (row : List Int) : toF (dotL row x) = S l.length (fun k => c k * rowF (seenL l row) k) := by
 rw [dotL_F, S_congr (g := fun i => S l.length (fun k => c k * (rowF row i * rowsF l k i))) (fun i _ => by rw [hc i, ← S_mul]; exact S_congr fun k _ => by grind), S_swap]
 refine S_congr fun k hk => ?_
 rw [S_mul, seenL_F hk, dotL_F]
 congr 1
 exact S_congr fun i _ => by unfold rowsF; rw [List.getD_eq_getElem?_getD (l := l), List.getElem?_eq_getElem hk]; rfl
theorem seen_hank {a : Aut} {k n : Nat} (ok : okA a k n) {cols : List (List Int)} (h : ColsOf a cols) (ws : List (List Nat)) (w : List Nat) (x : Nat → Fp) :
  (∀ j, rowF (seenL cols (rowW a w)) j = S ws.length (fun i => x i * rowsF (ws.map fun u => seenL cols (rowW a u)) i j)) ↔ ∀ v, hank (serA a) w v = S ws.length (fun i => x i * famH (serA a) ws i v) := by
 have e : ∀ i j, i < ws.length → rowsF (ws.map fun u => seenL cols (rowW a u)) i j = rowF (seenL cols (rowW a (ws.getD i []))) j := fun i j hi => by
  unfold rowsF
  rw [List.getD_eq_getElem?_getD, List.getElem?_map, List.getD_eq_getElem?_getD, List.getElem?_eq_getElem hi]; rfl
 constructor
 ·intro hs v
  obtain ⟨c, hc⟩ := colW_sum ok h v
  show toF (wtW a (w ++ v)) = S ws.length (fun i => x i * toF (wtW a (ws.getD i [] ++ v)))
  rw [wtW_cut ok, dot_sum c hc, S_congr (g := fun q => S ws.length (fun i => x i * (c q * rowF (seenL cols (rowW a (ws.getD i []))) q))) (fun q _ => by
   rw [hs q, ← S_mul]; exact S_congr fun i hi => by rw [e i q hi]; grind), S_swap]
  refine S_congr fun i _ => ?_
  rw [S_mul, wtW_cut ok, dot_sum c hc]
 ·intro hs j
  by_cases hj : j < cols.length
  ·obtain ⟨v, hv⟩ := cols_word h _ (List.getElem_mem hj)
   have h1 := hs v
   have h2 : ∀ u, hank (serA a) u v = rowF (seenL cols (rowW a u)) j := fun u => by
    show toF (wtW a (u ++ v)) = _
    rw [wtW_cut ok, seenL_F hj, hv]
   rw [h2] at h1
   rw [h1]
   exact S_congr fun i hi => by rw [e i j hi, ← h2]; rfl
  ·rw [rowF_out (seenL_len _ _) (by omega), S_zero fun i hi => by rw [e i j hi, rowF_out (seenL_len _ _) (by omega)]; grind]
def newS (a : Aut) (cols : List (List Int)) (ws : List (List Nat)) (w : List Nat) : Bool := (madeL (ws.map fun u => seenL cols (rowW a u)) (seenL cols (rowW a w))).isNone
theorem okRows_seen (a : Aut) (cols : List (List Int)) (ws : List (List Nat)) : okRows (ws.map fun u => seenL cols (rowW a u)) cols.length := fun y hy => by
 obtain ⟨u, _, rfl⟩ := List.mem_map.1 hy; exact ⟨seenL_len _ _, seenL_bd _ _⟩
theorem newS_newH {a : Aut} {k n : Nat} (ok : okA a k n) {cols : List (List Int)} (h : ColsOf a cols) (ws : List (List Nat)) (w : List Nat) : newS a cols ws w = newH (serA a) ws w := by
 have h1 := madeL_some (okRows_seen a cols ws) (seenL_len cols (rowW a w)) (seenL_bd cols (rowW a w))
 rw [List.length_map] at h1
 have h2 : InSp (rowsF (ws.map fun u => seenL cols (rowW a u))) ws.length (rowF (seenL cols (rowW a w))) ↔ InX (famH (serA a) ws) ws.length (hank (serA a) w) :=
  exists_congr fun x => seen_hank ok h ws w x
 rw [h2] at h1
 unfold newS
 by_cases hi : InX (famH (serA a) ws) ws.length (hank (serA a) w)
 ·have := h1.2 hi
  rw [newH_false.2 hi]
  cases hm : madeL (ws.map fun u => seenL cols (rowW a u)) (seenL cols (rowW a w)) with
  | none => rw [hm] at this; cases this
  | some _ => rfl
 ·rw [newH_true.2 hi]
  cases hm : madeL (ws.map fun u => seenL cols (rowW a u)) (seenL cols (rowW a w)) with
  | none => rfl
  | some _ => exact absurd (h1.1 (by rw [hm]; rfl)) hi
theorem Bfs.congr {α : Type} {new new' : List α → α → Bool} {kids : α → List α} (e : ∀ out c, new out c = new' out c) {out todo r : List α} (h : Bfs new kids out todo r) : Bfs new' kids out todo r := by
 induction h with
 | done => exact .done _
 | skip h1 _ ih => exact .skip (by rw [← e]; exact h1) ih
 | take h1 _ ih => exact .take (by rw [← e]; exact h1) ih
theorem chosen_of {a : Aut} {k n : Nat} (ok : okA a k n) {cols : List (List Int)} (h : ColsOf a cols) {ws : List (List Nat)} : Bfs (newS a cols) (kidsH k) [] [[]] ws ↔ ChosenOf (serA a) k ws :=
 ⟨fun hb => hb.congr (newS_newH ok h), fun hb => hb.congr fun o c => (newS_newH ok h o c).symm⟩
def IndX {X : Type} (fam : Nat → X → Fp) (d : Nat) : Prop := ∀ x : Nat → Fp, (∀ j, S d (fun k => x k * fam k j) = 0) → ∀ k, k < d → x k = 0
theorem indX_add {X : Type} {ch : Nat → X → Fp} {d : Nat} (h : IndX ch d) (hn : ¬ InX ch d (ch d)) : IndX ch (d + 1) := fun x hx k hk => by
 have hd : x d = 0 := Classical.byContradiction fun hne => hn ⟨fun k => - inv (x d) * x k, fun j => by
  have h1 := hx j
  have h2 := mul_inv hne
  rw [S] at h1
  rw [S_congr (g := fun k => - inv (x d) * (x k * ch k j)) (fun k _ => by grind), S_mul]
  generalize S d (fun k => x k * ch k j) = T at *
  grind⟩
 by_cases e : k = d
 ·rw [e]; exact hd
 ·refine h x (fun j => ?_) k (by omega)
  have h1 := hx j
  rw [S, hd] at h1
  grind
theorem coefX_one {X : Type} {ch : Nat → X → Fp} {d : Nat} (h : IndX ch d) {x y : Nat → Fp} (e : ∀ j, S d (fun k => x k * ch k j) = S d (fun k => y k * ch k j)) : ∀ k, k < d → x k = y k := fun k hk => by
 have h1 := h (fun k => x k - y k) (fun j => by
  rw [S_congr (g := fun k => x k * ch k j - y k * ch k j) (fun k _ => by grind), S_sub, e j]; grind) k hk
 have h2 : x k - y k = 0 := h1
 grind
theorem famH_left (f : List Nat → Fp) (ws : List (List Nat)) (w : List Nat) {k : Nat} (hk : k < ws.length) : famH f (ws ++ [w]) k = famH f ws k := by
 unfold famH
 rw [List.getD_eq_getElem?_getD, List.getElem?_append_left hk, ← List.getD_eq_getElem?_getD]
theorem famH_last (f : List Nat → Fp) (ws : List (List Nat)) (w : List Nat) : famH f (ws ++ [w]) ws.length = hank f w := by
 unfold famH
 rw [List.getD_eq_getElem?_getD, List.getElem?_append_right (Nat.le_refl _), Nat.sub_self]; rfl
theorem chosen_ind {f : List Nat → Fp} {K : Nat} {ws : List (List Nat)} (h : ChosenOf f K ws) : IndX (famH f ws) ws.length := by
 refine h.keeps (inv := fun ws => IndX (famH f ws) ws.length) (fun out c h0 e => ?_) (fun x _ k hk => absurd hk (Nat.not_lt_zero k))
 have hn := newH_true.1 e
 rw [List.length_append, List.length_singleton]
 refine indX_add (fun x hx k hk => h0 x (fun j => ?_) k hk) fun hin => hn ?_
 ·rw [← hx j]; exact S_congr fun k hk => by rw [famH_left f out c hk]
 ·rw [famH_last] at hin
  obtain ⟨x, hx⟩ := hin
  exact ⟨x, fun j => by rw [hx j]; exact S_congr fun k hk => by rw [famH_left f out c hk]⟩
theorem InX.more {f : List Nat → Fp} {ws : List (List Nat)} {w : List Nat} (h : InX (famH f ws) ws.length (hank f w)) (t : List (List Nat)) : InX (famH f (ws ++ t)) (ws ++ t).length (hank f w) := by
 induction t generalizing ws with
 | nil => rwa [List.append_nil]
 | cons y t ih =>
  rw [show ws ++ y :: t = (ws ++ [y]) ++ t by simp]
  refine ih ?_
  obtain ⟨c, hc⟩ := h
  refine ⟨fun k => if k < ws.length then c k else 0, fun j => ?_⟩
  rw [List.length_append, List.length_singleton, S]
  show _ = S ws.length (fun k => (if k < ws.length then c k else 0) * famH f (ws ++ [y]) k j) + (if ws.length < ws.length then c ws.length else 0) * famH f (ws ++ [y]) ws.length j
  rw [if_neg (Nat.lt_irrefl _), hc j, S_congr (f := fun k => (if k < ws.length then c k else 0) * famH f (ws ++ [y]) k j) (g := fun k => c k * famH f ws k j) (fun k hk => by rw [if_pos hk, famH_left f ws y hk])]; grind
theorem InX.last (f : List Nat → Fp) (ws : List (List Nat)) (w : List Nat) : InX (famH f (ws ++ [w])) (ws ++ [w]).length (hank f w) :=
 ⟨fun k => if k = ws.length then 1 else 0, fun j => by
  rw [List.length_append, List.length_singleton, S]
  show _ = S ws.length (fun k => (if k = ws.length then (1 : Fp) else 0) * famH f (ws ++ [w]) k j) + (if ws.length = ws.length then (1 : Fp) else 0) * famH f (ws ++ [w]) ws.length j
  rw [if_pos rfl, famH_last, S_zero (fun k hk => by rw [if_neg (by omega)]; grind)]; grind⟩
theorem chosen_all {f : List Nat → Fp} {K : Nat} {ws : List (List Nat)} (h : ChosenOf f K ws) : InX (famH f ws) ws.length (hank f []) ∧ ∀ w ∈ ws, ∀ x, x < K → InX (famH f ws) ws.length (hank f (w ++ [x])) := by
 obtain ⟨-, h2, t, h3, h4⟩ := Bfs.covers (P := fun ws w => InX (famH f ws) ws.length (hank f w)) (inv := fun _ => True) (good := fun _ => True)
  (fun _ _ _ _ => trivial) (fun _ _ _ _ _ => trivial) (fun out t c h => h.more t) (fun out c => InX.last f out c) (fun out c _ _ e => newH_false.1 e) h trivial (fun _ _ => trivial)
 rw [List.nil_append] at h3
 subst h3
 exact ⟨h2 _ (List.mem_singleton.2 rfl), fun w hw x hx => (h4 w hw).2 _ (List.mem_map.2 ⟨x, List.mem_range.2 hx, rfl⟩)⟩
structure LeastOf (f : List Nat → Fp) (K : Nat) (r : Aut) (ws : List (List Nat)) : Prop where
 chosen : ChosenOf f K ws
 letters : r.letters = K
 start : r.start = (List.range ws.length).map fun i => if i = 0 then 1 else 0
 ends : r.end_.length = ws.length ∧ (∀ u ∈ r.end_, 0 ≤ u ∧ u < 65521) ∧ ∀ i, i < ws.length → toF (r.end_.getD i 0) = f (ws.getD i [])
 steps : r.steps.length = K
 mats : ∀ x, x < K → okM (r.steps.getD x []) ws.length ws.length
 rows : ∀ x, x < K → ∀ i, i < ws.length → ∀ v, hank f (ws.getD i [] ++ [x]) v = S ws.length (fun k => rowsF (r.steps.getD x []) i k * famH f ws k v)
theorem okM.bd {rs : List (List Int)} {n m : Nat} (h : okM rs n m) {r : List Int} (hr : r ∈ rs) : r.length = m ∧ ∀ u ∈ r, 0 ≤ u ∧ u < 65521 := h.2 r hr
theorem LeastOf.one {f : List Nat → Fp} {K : Nat} {r r' : Aut} {ws ws' : List (List Nat)} (h : LeastOf f K r ws) (h' : LeastOf f K r' ws') : r' = r ∧ ws' = ws := by
 obtain rfl : ws' = ws := Bfs.one h.chosen h'.chosen
 refine ⟨?_, rfl⟩
 have hi := chosen_ind h.chosen
 have e1 : r'.letters = r.letters := by rw [h.letters, h'.letters]
 have e2 : r'.start = r.start := by rw [h.start, h'.start]
 have getD_bd : ∀ (l : List Int), (∀ u ∈ l, 0 ≤ u ∧ u < 65521) → ∀ i, 0 ≤ l.getD i 0 ∧ l.getD i 0 < 65521 := fun l hl i => by
  by_cases hi : i < l.length
  ·rw [List.getD_eq_getElem?_getD, List.getElem?_eq_getElem hi]; exact hl _ (List.getElem_mem hi)
  ·rw [List.getD_eq_getElem?_getD, List.getElem?_eq_none (by omega)]; decide
 have ext : ∀ (l l' : List Int), l.length = l'.length → (∀ u ∈ l, 0 ≤ u ∧ u < 65521) → (∀ u ∈ l', 0 ≤ u ∧ u < 65521) → (∀ i, i < l.length → toF (l.getD i 0) = toF (l'.getD i 0)) → l = l' := fun l l' h1 h2 h3 h4 => by
  apply List.ext_getElem h1
  intro i q1 q2
  have := toF_inj (getD_bd l h2 i) (getD_bd l' h3 i) (h4 i q1)
  rw [List.getD_eq_getElem?_getD, List.getElem?_eq_getElem q1, List.getD_eq_getElem?_getD, List.getElem?_eq_getElem q2] at this
  exact this
 have e3 : r'.end_ = r.end_ := ext _ _ (by rw [h.ends.1, h'.ends.1]) h'.ends.2.1 h.ends.2.1 fun i hi' => by
  rw [h'.ends.1] at hi'
  rw [h.ends.2.2 i hi', h'.ends.2.2 i hi']
 have e4 : r'.steps = r.steps := by
  apply List.ext_getElem (by rw [h.steps, h'.steps])
  intro x q1 q2
  have hx : x < K := by rw [h'.steps] at q1; exact q1
  have m1 := h.mats x hx
  have m2 := h'.mats x hx
  have r1 := h.rows x hx
  have r2 := h'.rows x hx
  rw [List.getD_eq_getElem?_getD, List.getElem?_eq_getElem q2] at m1
  rw [List.getD_eq_getElem?_getD, List.getElem?_eq_getElem q1] at m2
  rw [List.getD_eq_getElem?_getD (l := r.steps), List.getElem?_eq_getElem q2] at r1
  rw [List.getD_eq_getElem?_getD (l := r'.steps), List.getElem?_eq_getElem q1] at r2
  simp only [Option.getD_some] at m1 m2 r1 r2
  apply List.ext_getElem (by rw [m1.1, m2.1])
  intro i p1 p2
  have hi' : i < ws'.length := by rw [m2.1] at p1; exact p1
  have b1 := okM.bd m1 (List.getElem_mem p2)
  have b2 := okM.bd m2 (List.getElem_mem p1)
  have g1 : ∀ k, rowsF r.steps[x] i k = rowF (r.steps[x][i]) k := fun k => by unfold rowsF; rw [List.getD_eq_getElem?_getD, List.getElem?_eq_getElem p2]; rfl
  have g2 : ∀ k, rowsF r'.steps[x] i k = rowF (r'.steps[x][i]) k := fun k => by unfold rowsF; rw [List.getD_eq_getElem?_getD, List.getElem?_eq_getElem p1]; rfl
  refine ext _ _ (by rw [b1.1, b2.1]) b2.2 b1.2 fun k hk => ?_
  rw [b2.1] at hk
  have := coefX_one hi (x := fun k => rowF (r'.steps[x][i]) k) (y := fun k => rowF (r.steps[x][i]) k) (fun v => by
   rw [S_congr (g := fun k => rowsF r'.steps[x] i k * famH f ws' k v) (fun k _ => by rw [g2]), S_congr (f := fun k => rowF (r.steps[x][i]) k * famH f ws' k v) (g := fun k => rowsF r.steps[x] i k * famH f ws' k v) (fun k _ => by rw [g1]), ← r1 i hi' v, ← r2 i hi' v]) k hk
  exact this
 cases r; cases r'
 simp only at e1 e2 e3 e4
 subst e1; subst e2; subst e3; subst e4
 rfl
end Go.Proofs.YtlpldfocljnpnaaDoor
namespace Go.Proofs.YtlpldfocljnpnaaDoor
theorem SpInv.add_new {ch : List (List Int)} {s : SpL} {N : Nat} {row : List Int} (h : SpInv ch s N) (hr : row.length = N) (hb : ∀ u ∈ row, 0 ≤ u ∧ u < 65521) : (addSp s row).isSome = (madeL ch row).isNone := by
 have h1 := madeL_some h.rows hr hb
 cases e : addSp s row with
 | none =>
  have := h1.2 (h.add_none hr e)
  cases hm : madeL ch row with
  | none => rw [hm] at this; cases this
  | some _ => rfl
 | some s' =>
  have h2 := (h.add_some hr hb e).1
  cases hm : madeL ch row with
  | none => rfl
  | some _ => exact absurd (h1.1 (by rw [hm]; rfl)) h2
theorem newC_true {out : List (List Int)} {c : List Int} {N : Nat} (h : okRows out N) (hc : c.length = N) (hb : ∀ u ∈ c, 0 ≤ u ∧ u < 65521) : newC out c = true ↔ ¬ SumOf out c := by
 rw [← newC_false h hc hb]; cases newC out c <;> simp
theorem SumOf_ind {out : List (List Int)} {c : List Int} (h : Indep (rowsF out) out.length) (hn : ¬ SumOf out c) : Indep (rowsF (out ++ [c])) (out ++ [c]).length := by
 rw [List.length_append, List.length_singleton]
 refine indep_add (h.congr fun k hk => rowsF_snoc_left hk) fun hin => hn ?_
 rw [rowsF_snoc_last] at hin
 exact hin.congr fun k hk => (rowsF_snoc_left hk).symm
structure ColsInv (n : Nat) (out : List (List Int)) : Prop where
 rows : okRows out n
 ind : Indep (rowsF out) out.length
theorem ColsInv.le {n : Nat} {out : List (List Int)} (h : ColsInv n out) : out.length ≤ n := h.ind.le fun _ _ hj => rowsF_out h.rows hj
theorem ColsInv.start (n : Nat) : ColsInv n [] := ⟨fun x hx => (by cases hx), fun x _ k hk => absurd hk (Nat.not_lt_zero k)⟩
theorem ColsInv.add {n : Nat} {out : List (List Int)} {c : List Int} (h : ColsInv n out) (hc : c.length = n ∧ ∀ u ∈ c, 0 ≤ u ∧ u < 65521) (e : newC out c = true) : ColsInv n (out ++ [c]) :=
 ⟨fun x hx => by
  rcases List.mem_append.1 hx with hx | hx
  ·exact h.rows x hx
  ·rw [List.mem_singleton.1 hx]; exact hc, SumOf_ind h.ind ((newC_true h.rows hc.1 hc.2).1 e)⟩
theorem Bfs.exg {α : Type} {new : List α → α → Bool} {kids : α → List α} {inv : List α → Prop} {good : α → Prop} {N K : Nat} (hg : ∀ c, good c → ∀ x ∈ kids c, good x) (hk : ∀ c, (kids c).length ≤ K) (hi : ∀ out c, inv out → good c → new out c = true → inv (out ++ [c])) (hN : ∀ out, inv out → out.length ≤ N) : ∀ (n : Nat) (out todo : List α), inv out → (∀ c ∈ todo, good c) → (N - out.length) * (K + 1) + todo.length ≤ n → ∃ r, Bfs new kids out todo r := by
 intro n
 induction n with
 | zero =>
  intro out todo h0 _ hn
  obtain rfl : todo = [] := List.eq_nil_of_length_eq_zero (by omega)
  exact ⟨out, .done out⟩
 | succ n ih =>
  intro out todo h0 hgd hn
  cases todo with
  | nil => exact ⟨out, .done out⟩
  | cons c todo =>
   have hc := hgd c List.mem_cons_self
   cases e : new out c with
   | false =>
    obtain ⟨r, hr⟩ := ih out todo h0 (fun x hx => hgd x (List.mem_cons_of_mem _ hx)) (by simp only [List.length_cons] at hn; omega)
    exact ⟨r, .skip e hr⟩
   | true =>
    have h1 := hi out c h0 hc e
    have h2 := hN _ h1
    rw [List.length_append, List.length_singleton] at h2
    obtain ⟨r, hr⟩ := ih (out ++ [c]) (todo ++ kids c) h1 (fun x hx => by
     rcases List.mem_append.1 hx with hx | hx
     ·exact hgd x (List.mem_cons_of_mem _ hx)
     ·exact hg c hc x hx) (by
     have h3 := hk c
     rw [List.length_append, List.length_singleton, List.length_append]
     simp only [List.length_cons] at hn
     obtain ⟨d, hd⟩ : ∃ d, N - out.length = d + 1 := ⟨N - out.length - 1, by omega⟩
     rw [hd, Nat.add_mul] at hn
     rw [show N - (out.length + 1) = d by omega]
     omega)
    exact ⟨r, .take e hr⟩
theorem cols_ex {a : Aut} {k n : Nat} (ok : okA a k n) : ∃ cols, ColsOf a cols :=
 Bfs.exg (inv := ColsInv n) (good := fun c => c.length = n ∧ ∀ u ∈ c, 0 ≤ u ∧ u < 65521) (N := n) (K := k)
  (fun c _ x hx => by
   obtain ⟨m, hm, rfl⟩ := List.mem_map.1 hx
   exact ⟨(backL_len _ _).trans (ok.mats m hm).1, backL_bd _ _⟩)
  (fun c => by rw [kidsC, List.length_map, ok.steps]; exact Nat.le_refl _) (fun out c h hc e => h.add hc e) (fun out h => h.le) _ [] [a.end_] (ColsInv.start n) (fun c hc => by rw [List.mem_singleton.1 hc]; exact ok.end_) (Nat.le_refl _)
theorem cols_inv {a : Aut} {k n : Nat} (ok : okA a k n) {cols : List (List Int)} (h : ColsOf a cols) : ColsInv n cols :=
 (Bfs.covers (P := fun _ _ => True) (inv := ColsInv n) (good := fun c => c.length = n ∧ ∀ u ∈ c, 0 ≤ u ∧ u < 65521)
  (fun c _ x hx => by
   obtain ⟨m, hm, rfl⟩ := List.mem_map.1 hx
   exact ⟨(backL_len _ _).trans (ok.mats m hm).1, backL_bd _ _⟩) (fun out c h hc e => h.add hc e) (fun _ _ _ _ => trivial) (fun _ _ => trivial) (fun _ _ _ _ _ => trivial) h (ColsInv.start n) (fun c hc => by rw [List.mem_singleton.1 hc]; exact ok.end_)).1
def SeenInv (a : Aut) (cols : List (List Int)) (ws : List (List Nat)) : Prop := Indep (rowsF (ws.map fun u => seenL cols (rowW a u))) ws.length
theorem SeenInv.add {a : Aut} {cols : List (List Int)} {ws : List (List Nat)} {w : List Nat} (h : SeenInv a cols ws) (e : newS a cols ws w = true) : SeenInv a cols (ws ++ [w]) := by
 unfold SeenInv at h ⊢
 have h1 := madeL_some (okRows_seen a cols ws) (seenL_len cols (rowW a w)) (seenL_bd cols (rowW a w))
 have h2 : ¬ SumOf (ws.map fun u => seenL cols (rowW a u)) (seenL cols (rowW a w)) := fun hs => by
  have := h1.2 hs
  unfold newS at e
  cases hm : madeL (ws.map fun u => seenL cols (rowW a u)) (seenL cols (rowW a w)) with
  | none => rw [hm] at this; cases this
  | some _ => rw [hm] at e; cases e
 have h3 := SumOf_ind (by rw [List.length_map]; exact h) h2
 rw [List.map_append, List.map_singleton]
 rw [List.length_append, List.length_map, List.length_singleton] at h3
 rw [List.length_append, List.length_singleton]
 exact h3
theorem SeenInv.le {a : Aut} {cols : List (List Int)} {ws : List (List Nat)} (h : SeenInv a cols ws) : ws.length ≤ cols.length := Indep.le h fun _ _ hj => rowsF_out (okRows_seen a cols ws) hj
theorem SeenInv.start (a : Aut) (cols : List (List Int)) : SeenInv a cols [] := fun _ _ k hk => absurd hk (Nat.not_lt_zero k)
theorem kidsH_len (k : Nat) (w : List Nat) : (kidsH k w).length = k := by simp [kidsH]
theorem words_ex (a : Aut) (cols : List (List Int)) (k : Nat) : ∃ ws, Bfs (newS a cols) (kidsH k) [] [[]] ws :=
 Bfs.ex (inv := SeenInv a cols) (N := cols.length) (K := k) (fun c => by rw [kidsH_len]; exact Nat.le_refl _) (fun out c h e => h.add e) (fun out h => h.le) _ [] [[]] (SeenInv.start a cols) (Nat.le_refl _)
def smallL (a : Aut) (cols : List (List Int)) (ws : List (List Nat)) : Aut :=
 {letters := a.letters, start := (List.range ws.length).map fun i => if i = 0 then 1 else 0, end_ := ws.map fun w => wtW a w,
  steps := (List.range a.steps.length).map fun x => ws.map fun w => (madeL (ws.map fun u => seenL cols (rowW a u)) (seenL cols (rowW a (w ++ [x])))).getD [] }
def leastL (a : Aut) (cols : List (List Int)) (s : SpL) (ws : List (List Nat)) : Aut :=
 {letters := a.letters, start := (List.range ws.length).map fun i => if i = 0 then 1 else 0, end_ := ws.map fun w => wtW a w,
  steps := (List.range a.steps.length).map fun x => ws.map fun w => (splitL s (seenL cols (rowW a (w ++ [x]))) (List.replicate s.length 0)).2 }
theorem wtW_bd (a : Aut) (w : List Nat) : 0 ≤ wtW a w ∧ wtW a w < 65521 := dotL_bd _ _
theorem getD_map' {α β : Type} (f : α → β) (l : List α) (d : β) (e : α) {i : Nat} (hi : i < l.length) : (l.map f).getD i d = f (l.getD i e) := by
 rw [List.getD_eq_getElem?_getD, List.getElem?_map, List.getD_eq_getElem?_getD, List.getElem?_eq_getElem hi]; rfl
theorem getD_mem {α : Type} (l : List α) (d : α) {i : Nat} (hi : i < l.length) : l.getD i d ∈ l := by
 rw [List.getD_eq_getElem?_getD, List.getElem?_eq_getElem hi]; exact List.getElem_mem hi
theorem smallL_of {a : Aut} {k n : Nat} (ok : okA a k n) {cols : List (List Int)} (hc : ColsOf a cols) {ws : List (List Nat)} (hw : Bfs (newS a cols) (kidsH k) [] [[]] ws) : LeastOf (serA a) k (smallL a cols ws) ws := by
 have hch := (chosen_of ok hc).1 hw
 obtain ⟨-, hall⟩ := chosen_all hch
 have key : ∀ i, i < ws.length → ∀ x, x < k → ∃ y, madeL (ws.map fun u => seenL cols (rowW a u)) (seenL cols (rowW a (ws.getD i [] ++ [x]))) = some y ∧ y.length = ws.length ∧ (∀ u ∈ y, 0 ≤ u ∧ u < 65521) ∧ ∀ v, hank (serA a) (ws.getD i [] ++ [x]) v = S ws.length (fun j => rowF y j * famH (serA a) ws j v) := fun i hi x hx => by
  obtain ⟨c, hcx⟩ := hall _ (getD_mem ws [] hi) x hx
  have h1 := madeL_some (okRows_seen a cols ws) (seenL_len cols (rowW a (ws.getD i [] ++ [x]))) (seenL_bd cols _)
  have h2 : InSp (rowsF (ws.map fun u => seenL cols (rowW a u))) (ws.map fun u => seenL cols (rowW a u)).length (rowF (seenL cols (rowW a (ws.getD i [] ++ [x])))) := by
   rw [List.length_map]; exact ⟨c, (seen_hank ok hc ws _ c).2 hcx⟩
  obtain ⟨y, hy⟩ := Option.isSome_iff_exists.1 (h1.2 h2)
  have hy' := hy
  unfold madeL at hy
  rw [seenL_len, List.length_map] at hy
  have hsys := okM_sysL (okRows_seen a cols ws)
  rw [List.length_map] at hsys
  obtain ⟨q1, q2, q3⟩ := solvedM_sound hsys (seenL_bd cols _) (seenL_len cols _) hy
  have q4 := (sysL_sol (okRows_seen a cols ws) (seenL_len cols _) (fun k => toF (y.getD k 0))).1 (by rw [List.length_map]; exact q3)
  rw [List.length_map] at q4
  exact ⟨y, hy', q1, q2, (seen_hank ok hc ws _ (fun k => rowF y k)).1 q4⟩
 have est : ∀ x, x < k → (smallL a cols ws).steps.getD x [] = ws.map fun w => (madeL (ws.map fun u => seenL cols (rowW a u)) (seenL cols (rowW a (w ++ [x])))).getD [] := fun x hx => by
  rw [smallL, List.getD_eq_getElem?_getD, List.getElem?_map, List.getElem?_range (by rw [ok.steps]; exact hx)]; rfl
 refine ⟨hch, ok.letters, rfl, ⟨by simp [smallL], fun u hu => ?_, fun i hi => ?_⟩, by simp [smallL, ok.steps], fun x hx => ?_, fun x hx i hi v => ?_⟩
 ·obtain ⟨w, _, rfl⟩ := List.mem_map.1 hu; exact wtW_bd _ _
 ·rw [smallL]; simp only []; rw [getD_map' _ ws 0 [] hi]; rfl
 ·rw [est x hx]
  refine ⟨by simp, fun r hr => ?_⟩
  obtain ⟨w, hw', rfl⟩ := List.mem_map.1 hr
  obtain ⟨i, hi, rfl⟩ := List.getElem_of_mem hw'
  obtain ⟨y, h1, h2, h3, -⟩ := key i hi x hx
  rw [List.getD_eq_getElem?_getD, List.getElem?_eq_getElem hi] at h1
  rw [Option.getD_some] at h1
  rw [h1]; exact ⟨h2, h3⟩
 ·obtain ⟨y, h1, h2, h3, h4⟩ := key i hi x hx
  rw [h4 v, est x hx]
  refine S_congr fun j _ => ?_
  unfold rowsF
  rw [getD_map' _ ws [] [] hi, h1]; rfl
theorem least_small {a : Aut} {k n : Nat} (ok : okA a k n) {cols : List (List Int)} (hc : ColsOf a cols) {ws : List (List Nat)} (hw : Bfs (newS a cols) (kidsH k) [] [[]] ws) {s : SpL} (hs : SpInv (ws.map fun u => seenL cols (rowW a u)) s cols.length) : leastL a cols s ws = smallL a cols ws := by
 have hch := (chosen_of ok hc).1 hw
 obtain ⟨-, hall⟩ := chosen_all hch
 unfold leastL smallL
 congr 1
 refine List.map_congr_left fun x hx => List.map_congr_left fun w hw' => ?_
 obtain ⟨h1, h2, h3, h4⟩ := hs.split (seenL_len cols (rowW a (w ++ [x])))
 have hbd := splitL_bd s (seenL cols (rowW a (w ++ [x]))) (List.replicate s.length 0) (seenL_bd _ _) (fun u hu => by rw [List.eq_of_mem_replicate hu]; decide)
 have hin : InSp (rowsF (ws.map fun u => seenL cols (rowW a u))) (ws.map fun u => seenL cols (rowW a u)).length (rowF (seenL cols (rowW a (w ++ [x])))) := by
  obtain ⟨c, hcx⟩ := hall w hw' x (by rw [← ok.steps]; exact List.mem_range.1 hx)
  rw [List.length_map]; exact ⟨c, (seen_hank ok hc ws _ c).2 hcx⟩
 have h5 := left_none hs.ok hs.gen hin
 have h6 := splF_sum (toSp s) hs.ok (rowF (seenL cols (rowW a (w ++ [x])))) (fun _ => 0)
 rw [madeL_one (okRows_seen a cols ws) hs.ind (seenL_len _ _) (seenL_bd _ _) h2 hbd.2 (fun j => by
  have h7 := h6 j
  rw [h5 j, S_zero (f := fun k => (0 : Fp) * _) (fun k _ => by grind)] at h7
  rw [S_congr (g := fun k => (splF (toSp s) (rowF (seenL cols (rowW a (w ++ [x])))) (fun _ => 0)).2 k * rowsF (ws.map fun u => seenL cols (rowW a u)) k j) (fun k _ => by rw [h4 k])]
  grind)]; rfl
open Classical in
noncomputable def colsA (a : Aut) : List (List Int) := if h : ∃ cols, ColsOf a cols then Classical.choose h else []
theorem colsA_of {a : Aut} {k n : Nat} (ok : okA a k n) : ColsOf a (colsA a) := by
 unfold colsA
 rw [dif_pos (cols_ex ok)]
 exact Classical.choose_spec (cols_ex ok)
noncomputable def wordsA (a : Aut) : List (List Nat) := Classical.choose (words_ex a (colsA a) a.steps.length)
theorem wordsA_of (a : Aut) : Bfs (newS a (colsA a)) (kidsH a.steps.length) [] [[]] (wordsA a) := Classical.choose_spec (words_ex a (colsA a) a.steps.length)
noncomputable def leastA (a : Aut) : Aut := smallL a (colsA a) (wordsA a)
theorem leastA_of {a : Aut} {k n : Nat} (ok : okA a k n) : LeastOf (serA a) k (leastA a) (wordsA a) := by
 have := wordsA_of a
 rw [ok.steps] at this
 exact smallL_of ok (colsA_of ok) this
end Go.Proofs.YtlpldfocljnpnaaDoor
namespace Go.Proofs.YtlpldfocljnpnaaDoor
open Go.RowKit Go.Shelf
theorem back_len' (m : List (List Int)) (col : List Int) (q : Nat) : ((m.take q).map fun r => dotL r col).length = min q m.length := by simp
theorem map_take_snoc {α β : Type} (f : α → β) (m : List α) (d : α) {q : Nat} (hq : q < m.length) : (m.take q).map f ++ [f (m.getD q d)] = (m.take (q + 1)).map f := by
 rw [List.take_succ_eq_append_getElem hq, List.map_append, List.map_singleton, List.getD_eq_getElem?_getD, List.getElem?_eq_getElem hq]; rfl
theorem back_any {a : Aut} {k n : Nat} (ok : okA a k n) (hn : n ≤ 1000) (col : List Int) (x : Nat) (hx : x < k) (hr : col.length = n) (hb : ∀ u ∈ col, 0 ≤ u ∧ u < 65521) (s e t vc : Value) (w : World) (ra : RdA w s e t a) (rc : RdI w vc col) :
  Calls Tryd.prog 91 #[.agg #[.int .i64 a.letters, s, e, t], vc, .int .i64 x] w fun r w' => (∃ v, r = .returned v ∧ OwnI w' w.heap.size v (backL (a.steps.getD x []) col)) ∧ Below w.heap.size w w' := by
 obtain ⟨b, off, c, u, rfl, hc, hu⟩ := ra.steps.get (x := x) (by rw [ok.steps]; exact hx)
 have hkl := ok.steps
 have hro := ok.row_ok hx
 obtain ⟨hbx, hgx, hzx⟩ := box4 w (.int .i64 a.letters) s e (.slice (some ⟨b, off, none⟩) a.steps.length c) 77
 have hcb : b < w.heap.size := World.block_lt_of_cell? w _ hc
 have hc1 := (hbx.cell (p := ⟨b, off + x, none⟩) hcb).trans hc
 obtain ⟨i0, hi, hz0, hz1, hz2⟩ := info_parts infoI
 obtain ⟨A, d, rfl, m1, m2, m3⟩ := hu.open_
 have x1 : (x : Int) < (a.steps.length : Int) := by omega
 have x0 : (0 : Int) ≤ (x : Int) := by omega
 have hbl : Hid (backL (a.steps.getD x []) col = (a.steps.getD x []).map fun r => dotL r col) := Lib.hid rfl
 generalize a.steps.getD x [] = m at *
 have hdo := Lib.hid (fun q (hq : q < m.length) (ur : Value) W (hW : Below w.heap.size w W) (h : RdI w ur (m.getD q [])) => dot_any (m.getD q []) col ur vc W (h.below hW (Nat.le_refl _)) (rc.below hW (Nat.le_refl _)) (by rw [(hro.2 _ (getD_mem m [] hq)).1, hr]; exact Nat.le_refl _) (by rw [(hro.2 _ (getD_mem m [] hq)).1]; omega) (hro.2 _ (getD_mem m [] hq)).2 hb)
 have hsn := Lib.hid (fun q (hq : q < m.length) => map_take_snoc (fun r => dotL r col) m [] hq)
 have hln := Lib.hid (back_len' m col)
 have hml : m.length ≤ 1000 := by rw [hro.1]; exact hn
 replace m3 := Lib.hid m3
 replace hkl := Lib.hid hkl
 have hend := Lib.hid (show (m.take m.length).map (fun r => dotL r col) = m.map fun r => dotL r col by rw [List.take_of_length_le (Nat.le_refl _)])
 clear ra rc hro hu hr hb hc
 replace hbx := Lib.hid hbx
 obtain ⟨q0, q1, q2, q3⟩ := cells4 hgx
 replace hgx := Lib.hid hgx
 generalize m.length = L at *
 go_enter Tryd.func91, Tryd.ntmps91
 go_wp2
 generalize w.alloc (.cells #[.int .i64 a.letters, s, e, .slice (some ⟨b, off, none⟩) a.steps.length c] 77) = X at *
 go_loopw [7, 9, 17] (fun o _ j wr => ∃ q : Nat, q ≤ L ∧ j = .int .i64 q ∧ Hid (Below w.heap.size w wr) ∧ Hid (OwnI wr w.heap.size o ((m.take q).map fun r => dotL r col))) (fun _ _ j _ => L - (intOf j).toNat)
 case atStart => exact ⟨0, Nat.zero_le _, rfl, hbx, Lib.hid (OwnI_nil _ _)⟩
 case round =>
  obtain ⟨q, hq, rfl, hB, hO⟩ := hrel
  have hlq : Hid (((m.take q).map fun r => dotL r col).length = q) := Lib.hid (by rw [hln.out]; omega)
  by_cases hlt : q < L
  ·obtain ⟨b2, off2, u2, rfl, hc2, hu2⟩ := m3.out q hlt
   replace hc2 := (hB.out.cell (p := ⟨b2, off2 + q, none⟩) (World.block_lt_of_cell? w _ hc2)).trans hc2
   have hd := Lib.hid (hdo.out q hlt u2 wr hB.out hu2)
   have hs := Lib.hid (hsn.out q hlt)
   obtain ⟨A2, c2, e0⟩ := own_form hO.out
   rw [hlq.out] at e0
   subst e0
   have hown := Lib.hid (show wr.ownsRow w.heap.size 3 1 (.slice A2 q c2) q (ints ((m.take q).map fun r => dotL r col)) by have := hO.out; unfold OwnI at this; rwa [hlq.out] at this)
   have hsz := hB.out.size
   have y1 : (q : Int) < (L : Int) := by omega
   have y0 : (0 : Int) ≤ (q : Int) := by omega
   clear hu2
   generalize dotL (m.getD q []) col = y at *
   go_wp2_with fail
   refine hd.out.mono ?_; rintro e w' ⟨rfl, rfl⟩
   go_wp2_with (at_builtin; (refine wpList_app1 rfl _ _ 22 rfl 3 i0 _ 1 8 Tryd.underlying22 hi hz0 hz1 hz2 rfl (by omega) (by omega) w.heap.size (.slice A2 q c2) q (ints ((m.take q).map fun r => dotL r col)) rfl (own_below hown.out ((Below.refl wr.heap.size wr).alloc (Nat.le_refl _) _)) ⟨wr.heap.size, 0, none⟩ [.int .i64 y] rfl rfl (news_new wr [.int .i64 y] _) (by simp [Value.oneCell']) (by omega) (by simp; omega) ?_); intro A' c' w1 hown1 hgrow _)
   have hfin := Lib.hid (own_snoc1 hlq.out hown1)
   rw [hs.out] at hfin
   have hB1 := Lib.hid ((hB.out.alloc (by omega) (.cells #[.int .i64 y] 3)).grown hgrow (by simp; omega) (fun q hq => (hown.out.lt q hq).1))
   clear hown1 hgrow
   go_wp2
   go_roundw
   case rel => exact ⟨q + 1, by omega, by go_num, hB1, hfin⟩
   case measure => simp [intOf]; omega
  ·obtain rfl : q = L := by omega
   go_wp2
   go_ret
   exact ⟨⟨_, rfl, by rw [hbl.out, ← hend.out]; exact hO.out⟩, hB.out⟩
end Go.Proofs.YtlpldfocljnpnaaDoor
namespace Go.Proofs.YtlpldfocljnpnaaDoor
open Go.RowKit Go.Shelf
def wordB (ws : List Nat) : ByteArray := ⟨(ws.map fun x => UInt8.ofNat (97 + x)).toArray⟩
theorem wordB_size (ws : List Nat) : (wordB ws).size = ws.length := by simp [wordB, ByteArray.size]
theorem wordB_get (ws : List Nat) {i : Nat} (h : i < (wordB ws).size) : (wordB ws)[i] = UInt8.ofNat (97 + ws.getD i 0) := by
 have hi : i < ws.length := by rw [wordB_size] at h; exact h
 show (wordB ws).data[i] = _
 simp [wordB, hi]
theorem rowW_take (a : Aut) (ws : List Nat) {i : Nat} (hi : i < ws.length) : rowW a (ws.take (i + 1)) = alongL a.start.length (rowW a (ws.take i)) (a.steps.getD (ws.getD i 0) []) := by
 rw [List.take_succ_eq_append_getElem hi, rowW_snoc, List.getD_eq_getElem?_getD (l := ws), List.getElem?_eq_getElem hi]; rfl
theorem weight_any {a : Aut} {k n : Nat} (ok : okA a k n) (hn : n ≤ 1000) (ws : List Nat) (hw : ∀ x ∈ ws, x < k) (hwl : ws.length ≤ 1000) (s e t : Value) (w : World) (ra : RdA w s e t a) :
  Calls Tryd.prog 61 #[.agg #[.int .i64 a.letters, s, e, t], .string (wordB ws)] w fun r w' => r = .returned (.int .i64 (wtW a ws)) ∧ Below w.heap.size w w' := by
 obtain ⟨hbx, hgx, hzx⟩ := box4 w (.int .i64 a.letters) s e t 77
 have hfo := Lib.hid (fun x (hx : x < k) i v W (hW : Below w.heap.size w W) (h : RdI W v (rowW a (ws.take i))) => forth_any ok hn (rowW a (ws.take i)) x hx (rowW_len ok _) (rowW_bd ok _) s e t v W (ra.below hW (Nat.le_refl _)) h)
 have hdo := Lib.hid (fun v W (hW : Below w.heap.size w W) (h : RdI W v (rowW a (ws.take ws.length))) => dot_any (rowW a (ws.take ws.length)) a.end_ v e W h (ra.end_.below hW (Nat.le_refl _)) (by rw [rowW_len ok, ok.end_.1]; exact Nat.le_refl _) (by rw [rowW_len ok]; omega) (rowW_bd ok _) ok.end_.2)
 have hr0 := ra.start
 have hrt := Lib.hid (fun i (hi : i < ws.length) => rowW_take a ws hi)
 rw [ok.start.1] at hrt
 have hend := Lib.hid (show dotL (rowW a (ws.take ws.length)) a.end_ = wtW a ws by rw [List.take_length]; rfl)
 have hlr := Lib.hid (fun i => rowW_len ok (ws.take i))
 have hk4 := ok.pos.2
 have hsz := (wordB_size ws).symm
 have hgt := Lib.hid (fun i (h : i < (wordB ws).size) => wordB_get ws h)
 have hwg := Lib.hid (fun i (hi : i < ws.length) => hw (ws.getD i 0) (getD_mem ws 0 hi))
 have hBm := Lib.hid (fun W (hW : Below (w.alloc (.cells #[.int .i64 a.letters, s, e, t] 77)).heap.size (w.alloc (.cells #[.int .i64 a.letters, s, e, t] 77)) W) => (cells4 ((hW.block w.heap.size (by omega)).trans hgx)))
 have hq0 := cells4 hgx
 obtain ⟨q0, q1, q2, q3⟩ := hq0
 have hn0 : rowW a (ws.take 0) = a.start := rfl
 replace hn0 := Lib.hid hn0
 replace hbx := Lib.hid hbx
 replace hr0 := Lib.hid (hr0.below hbx.out (Nat.le_refl _))
 clear ra hgx hw
 rw [hsz] at hwl hdo hend
 replace hrt : Hid (∀ i, i < (wordB ws).size → rowW a (ws.take (i + 1)) = alongL n (rowW a (ws.take i)) (a.steps.getD (ws.getD i 0) [])) := Lib.hid (fun i hi => hrt.out i (by rw [hsz]; exact hi))
 replace hwg : Hid (∀ i, i < (wordB ws).size → ws.getD i 0 < k) := Lib.hid (fun i hi => hwg.out i (by rw [hsz]; exact hi))
 clear hsz
 generalize wordB ws = B at *
 go_enter Tryd.func61, Tryd.ntmps61
 go_wp2
 generalize w.alloc (.cells #[.int .i64 a.letters, s, e, t] 77) = X at *
 go_loopw [5, 6, 12] (fun v _ j wr => ∃ q : Nat, q ≤ B.size ∧ j = .int .i64 q ∧ Hid (Below X.heap.size X wr) ∧ Hid (RdI wr v (rowW a (ws.take q)))) (fun _ _ j _ => B.size - (intOf j).toNat)
 case atStart => exact ⟨0, Nat.zero_le _, rfl, Lib.hid (Below.refl _ _), by rw [hn0.out]; exact hr0⟩
 case round =>
  obtain ⟨q, hq, rfl, hB, hR⟩ := hrel
  obtain ⟨q0, q1, q2, q3⟩ := hBm.out wr hB.out
  by_cases hlt : q < B.size
  ·have hx := hwg.out q hlt
   have hg := hgt.out q hlt
   have hr := hrt.out q hlt
   generalize ws.getD q 0 = x at hx hg hr
   have hbt : (B[q].toNat : Int) = 97 + (x : Int) := by rw [hg]; show (((97 + x) % 256 : Nat) : Int) = _; omega
   have hwr : IntKind.u8.wrap (97 + (x : Int) - 97) = (x : Int) := by rw [show (97 : Int) + x - 97 = x by omega, IntKind.wrap_u8]; omega
   have hf := Lib.hid (fun v W hW h => hfo.out x hx q v W hW h)
   rw [← hr] at hf
   replace hr := Lib.hid hr
   have hlq := Lib.hid (hlr.out (q + 1))
   have hw2 : IntKind.i64.wrap (x : Int) = (x : Int) := by rw [IntKind.wrap_i64]; omega
   clear hg
   go_wp2
   go_still_tail 7, (by kernel_rfl)
   change wpList _ _ _ _ _ wr.drew
   have hBd := Lib.hid (hB.out.drew)
   have hRd := Lib.hid (hR.out.below (B := wr.heap.size) (Below.refl _ wr).drew (Nat.le_refl _))
   clear q0 q1 q2 q3 hB hR
   generalize wr.drew = wd at *
   go_wp2_with fail
   refine (hf.out _ wd (Below.then_ hbx.out hBd.out) hRd.out).mono ?_; rintro e w' ⟨⟨v, rfl, hO⟩, hb⟩
   have hB2 := Lib.hid (Below.then_ hBd.out hb)
   have hR2 := Lib.hid (hO.rd (by rw [hlq.out]; omega))
   clear hO hb
   go_wp2
   go_roundw
   case rel => exact ⟨q + 1, by omega, by go_num, hB2, hR2⟩
   case measure => simp [intOf]; omega
  ·obtain rfl : q = B.size := by omega
   have hd := Lib.hid (hdo.out _ wr (Below.then_ hbx.out hB.out) hR.out)
   rw [hend.out] at hd
   obtain ⟨y, hy⟩ : ∃ y, y = wtW a ws := ⟨_, rfl⟩
   rw [← hy] at hd
   replace hy := Lib.hid hy
   go_wp2_with fail
   refine hd.out.mono ?_; rintro e w' ⟨rfl, rfl⟩
   go_wp2
   go_ret
   exact ⟨by rw [← hy.out]; rfl, Below.then_ hbx.out hB.out⟩
end Go.Proofs.YtlpldfocljnpnaaDoor
namespace Go.Proofs.YtlpldfocljnpnaaDoor
open Go.RowKit Go.Shelf
theorem seen_any (cols : List (List Int)) (n : Nat) (hn : n ≤ 1000) (hc : ∀ c ∈ cols, c.length = n ∧ ∀ u ∈ c, 0 ≤ u ∧ u < 65521) (hcl : cols.length ≤ 1000) (row : List Int) (hr : row.length = n) (hb : ∀ u ∈ row, 0 ≤ u ∧ u < 65521) (g : Nat) (vc vr : Value) (w : World) (hg : w.cell? ⟨g, 0, none⟩ = some vc) (rc : RdM w vc cols) (rr : RdI w vr row) :
  Calls Tryd.prog 105 (#[vr] ++ #[.pointer (some ⟨g, 0, none⟩)]) w fun r w' => (∃ v, r = .returned v ∧ OwnI w' w.heap.size v (seenL cols row)) ∧ Below w.heap.size w w' := by
 obtain ⟨i0, hi, hz0, hz1, hz2⟩ := info_parts infoI
 obtain ⟨A, d, rfl, m1, m2, m3⟩ := rc.open_
 have hbl : Hid (seenL cols row = cols.map fun c => dotL row c) := Lib.hid rfl
 have hdo := Lib.hid (fun q (hq : q < cols.length) (uc : Value) W (hW : Below w.heap.size w W) (h : RdI w uc (cols.getD q [])) => dot_any row (cols.getD q []) vr uc W (rr.below hW (Nat.le_refl _)) (h.below hW (Nat.le_refl _)) (by rw [(hc _ (getD_mem cols [] hq)).1, hr]; exact Nat.le_refl _) (by omega) hb (hc _ (getD_mem cols [] hq)).2)
 have hsn := Lib.hid (fun q (hq : q < cols.length) => map_take_snoc (fun c => dotL row c) cols [] hq)
 have hln : Hid (∀ q, ((cols.take q).map fun c => dotL row c).length = min q cols.length) := Lib.hid (fun q => by simp)
 replace m3 := Lib.hid m3
 have hend := Lib.hid (show (cols.take cols.length).map (fun c => dotL row c) = cols.map fun c => dotL row c by rw [List.take_of_length_le (Nat.le_refl _)])
 clear rc rr hc hr hb
 generalize cols.length = L at *
 go_enter Tryd.func105, Tryd.ntmps105
 go_wp2
 go_loopw [4, 6, 9] (fun o _ j wr => ∃ q : Nat, q ≤ L ∧ j = .int .i64 q ∧ Hid (Below w.heap.size w wr) ∧ Hid (OwnI wr w.heap.size o ((cols.take q).map fun c => dotL row c))) (fun _ _ j _ => L - (intOf j).toNat)
 case atStart => exact ⟨0, Nat.zero_le _, rfl, Lib.hid (Below.refl _ _), Lib.hid (OwnI_nil _ _)⟩
 case round =>
  obtain ⟨q, hq, rfl, hB, hO⟩ := hrel
  have hlq : Hid (((cols.take q).map fun c => dotL row c).length = q) := Lib.hid (by rw [hln.out]; omega)
  by_cases hlt : q < L
  ·obtain ⟨b2, off2, u2, rfl, hc2, hu2⟩ := m3.out q hlt
   replace hc2 := (hB.out.cell (p := ⟨b2, off2 + q, none⟩) (World.block_lt_of_cell? w _ hc2)).trans hc2
   have hd := Lib.hid (hdo.out q hlt u2 wr hB.out hu2)
   have hs := Lib.hid (hsn.out q hlt)
   obtain ⟨A2, c2, e0⟩ := own_form hO.out
   rw [hlq.out] at e0
   subst e0
   have hown := Lib.hid (show wr.ownsRow w.heap.size 3 1 (.slice A2 q c2) q (ints ((cols.take q).map fun c => dotL row c)) by have := hO.out; unfold OwnI at this; rwa [hlq.out] at this)
   have hsz := hB.out.size
   have y1 : (q : Int) < (L : Int) := by omega
   have y0 : (0 : Int) ≤ (q : Int) := by omega
   clear hu2
   generalize dotL row (cols.getD q []) = y at *
   go_wp2_with fail
   refine hd.out.mono ?_; rintro e w' ⟨rfl, rfl⟩
   go_wp2_with (at_builtin; (refine wpList_app1 rfl _ _ 22 rfl 3 i0 _ 1 8 Tryd.underlying22 hi hz0 hz1 hz2 rfl (by omega) (by omega) w.heap.size (.slice A2 q c2) q (ints ((cols.take q).map fun c => dotL row c)) rfl (own_below hown.out ((Below.refl wr.heap.size wr).alloc (Nat.le_refl _) _)) ⟨wr.heap.size, 0, none⟩ [.int .i64 y] rfl rfl (news_new wr [.int .i64 y] _) (by simp [Value.oneCell']) (by omega) (by simp; omega) ?_); intro A' c' w1 hown1 hgrow _)
   have hfin := Lib.hid (own_snoc1 hlq.out hown1)
   rw [hs.out] at hfin
   have hB1 := Lib.hid ((hB.out.alloc (by omega) (.cells #[.int .i64 y] 3)).grown hgrow (by simp; omega) (fun q hq => (hown.out.lt q hq).1))
   clear hown1 hgrow
   go_wp2
   go_roundw
   case rel => exact ⟨q + 1, by omega, by go_num, hB1, hfin⟩
   case measure => simp [intOf]; omega
  ·obtain rfl : q = L := by omega
   go_wp2
   go_ret
   exact ⟨⟨_, rfl, by rw [hbl.out, ← hend.out]; exact hO.out⟩, hB.out⟩
end Go.Proofs.YtlpldfocljnpnaaDoor
namespace Go.Proofs.YtlpldfocljnpnaaDoor
open Go.RowKit Go.Shelf
def leadC : Nat → SpL → List Value
 | _, [] => []
 | i, p :: t => .int .i64 (i : Nat) :: .int .i64 (p.1 : Nat) :: leadC (i + 1) t
theorem leadC_len : ∀ (i : Nat) (s : SpL), (leadC i s).length = s.length * 2
 | _, [] => rfl
 | i, p :: t => by rw [leadC, List.length_cons, List.length_cons, leadC_len (i + 1) t, List.length_cons]; omega
theorem leadC_snoc : ∀ (i : Nat) (s : SpL) (p : Nat × List Int × List Int), leadC i (s ++ [p]) = leadC i s ++ [.int .i64 ((i + s.length : Nat) : Int), .int .i64 (p.1 : Nat)]
 | i, [], p => by simp [leadC]
 | i, q :: t, p => by
  rw [List.cons_append, leadC, leadC, leadC_snoc (i + 1) t p, List.length_cons, show i + 1 + t.length = i + (t.length + 1) by omega]; rfl
theorem leadC_get : ∀ (i : Nat) (s : SpL) (q : Nat), q < s.length → (leadC i s)[q * 2]? = some (.int .i64 ((i + q : Nat) : Int)) ∧ (leadC i s)[q * 2 + 1]? = some (.int .i64 ((s.getD q (0, [], [])).1 : Nat))
 | i, [], q, h => by simp at h
 | i, p :: t, 0, h => by simp [leadC]
 | i, p :: t, q + 1, h => by
  have := leadC_get (i + 1) t q (by simpa using h)
  rw [leadC, show (q + 1) * 2 = q * 2 + 1 + 1 by omega, List.getElem?_cons_succ, List.getElem?_cons_succ, List.getElem?_cons_succ, List.getElem?_cons_succ, this.1, this.2, show i + 1 + q = i + (q + 1) by omega, List.getD_cons_succ]
  exact ⟨rfl, rfl⟩
structure SpanO (w : World) (base p : Nat) (L R M : Value) (rs ms : List Value) (s : SpL) : Prop where
 box : w.heap[p]? = some (.cells #[L, R, M] 100 (0, 0))
 lo : base ≤ p
 leads : w.ownsRow base 144 2 L s.length (leadC 0 s)
 red : OwnMv w base R (s.map fun q => q.2.1) rs
 made : OwnMv w base M (s.map fun q => q.2.2) ms
 apart : ∀ u ∈ R :: rs, ∀ v ∈ M :: ms, u.ownBlock = none ∨ u.ownBlock ≠ v.ownBlock
def spanF (p : Nat) (L R M : Value) (rs ms : List Value) (k : Nat) : Prop := k = p ∨ ∃ u ∈ L :: R :: M :: (rs ++ ms), u.ownBlock = some k
theorem OwnMv.frame {F : Nat → Prop} {w w' : World} {base : Nat} {v : Value} {rs : List (List Int)} {vs : List Value} (h : OwnMv w base v rs vs) (hf : Frame F w w') (hn : ∀ u ∈ v :: vs, ∀ k, u.ownBlock = some k → ¬ F k) : OwnMv w' base v rs vs :=
 ⟨hf.owns h.outer (hn v List.mem_cons_self), fun j r u hr hu => hf.owns (h.rows j r u hr hu) (hn u (List.mem_cons_of_mem _ (List.mem_of_getElem? hu))), h.apart⟩
namespace SpanO
variable {w w' : World} {base p : Nat} {L R M : Value} {rs ms : List Value} {s : SpL}
theorem ge (h : SpanO w base p L R M rs ms s) {k : Nat} (hk : spanF p L R M rs ms k) : base ≤ k ∧ k < w.heap.size := by
 rcases hk with rfl | ⟨u, hu, e⟩
 ·exact ⟨h.lo, lt_of_block h.box⟩
 ·rcases List.mem_cons.1 hu with rfl | hu
  ·exact h.leads.lt k e
  ·rcases List.mem_cons.1 hu with rfl | hu
   ·exact h.red.outer.lt k e
   ·rcases List.mem_cons.1 hu with rfl | hu
    ·exact h.made.outer.lt k e
    ·rcases List.mem_append.1 hu with hu | hu
     ·exact h.red.ge u hu k e
     ·exact h.made.ge u hu k e
theorem frame (h : SpanO w base p L R M rs ms s) {F : Nat → Prop} (hf : Frame F w w') (hn : ∀ k, spanF p L R M rs ms k → ¬ F k) : SpanO w' base p L R M rs ms s :=
 ⟨hf.heap h.box (hn p (.inl rfl)), h.lo, hf.owns h.leads (fun k hk => hn k (.inr ⟨L, by simp, hk⟩)),
  h.red.frame hf (fun u hu k hk => hn k (.inr ⟨u, by rcases List.mem_cons.1 hu with rfl | hu <;> simp [*], hk⟩)),
  h.made.frame hf (fun u hu k hk => hn k (.inr ⟨u, by rcases List.mem_cons.1 hu with rfl | hu <;> simp [*], hk⟩)), h.apart⟩
theorem kept (h : SpanO w base p L R M rs ms s) (hb : Below w.heap.size w w') : SpanO w' base p L R M rs ms s :=
 h.frame (F := fun _ => False) (Frame.of_below hb) (fun _ _ h => h)
end SpanO
structure SpanR (w : World) (p : Nat) (s : SpL) : Prop where
 ex : ∃ L R M, w.heap[p]? = some (.cells #[L, R, M] 100 (0, 0)) ∧ (∃ A c, L = .slice A s.length c ∧ (∀ q, q < s.length → ∃ b, A = some ⟨b, 0, none⟩ ∧ w.cell? ⟨b, q * 2, none⟩ = some (.int .i64 (q : Nat)) ∧ w.cell? ⟨b, q * 2 + 1, none⟩ = some (.int .i64 ((s.getD q (0, [], [])).1 : Nat)))) ∧ RdM w R (s.map fun q => q.2.1) ∧ RdM w M (s.map fun q => q.2.2)
theorem SpanO.rd {w : World} {base p : Nat} {L R M : Value} {rs ms : List Value} {s : SpL} (h : SpanO w base p L R M rs ms s) (hl : s.length ≤ 1000000) (hr : ∀ q ∈ s, q.2.1.length ≤ 1000000 ∧ q.2.2.length ≤ 1000000) : SpanR w p s := by
 refine ⟨L, R, M, h.box, ?_, h.red.m.rd (by rw [List.length_map]; omega) (fun r hr' => by obtain ⟨q, hq, rfl⟩ := List.mem_map.1 hr'; have := (hr q hq).1; omega), h.made.m.rd (by rw [List.length_map]; omega) (fun r hr' => by obtain ⟨q, hq, rfl⟩ := List.mem_map.1 hr'; have := (hr q hq).2; omega)⟩
 obtain ⟨A, c, rfl⟩ := own_form h.leads
 refine ⟨A, c, rfl, fun q hq => ?_⟩
 obtain ⟨g, c', e, -, -⟩ := h.leads.form (by omega)
 simp only [Value.slice.injEq] at e
 obtain ⟨rfl, -, -⟩ := e
 have h1 := leadC_get 0 s q hq
 have hln := leadC_len 0 s
 refine ⟨g, rfl, ?_, ?_⟩
 ·rw [h.leads.cellAt (q * 2) (by omega), h1.1, Nat.zero_add]
 ·rw [h.leads.cellAt (q * 2 + 1) (by omega), h1.2]
theorem SpanR.below {w w' : World} {p : Nat} {s : SpL} (h : SpanR w p s) (hb : Below w.heap.size w w') : SpanR w' p s := by
 obtain ⟨L, R, M, h1, ⟨A, c, e, h2⟩, h3, h4⟩ := h.ex
 refine ⟨L, R, M, heap_keep h1 hb, ⟨A, c, e, fun q hq => ?_⟩, h3.below hb (Nat.le_refl _), h4.below hb (Nat.le_refl _)⟩
 obtain ⟨b, e2, h5, h6⟩ := h2 q hq
 exact ⟨b, e2, (hb.cell (World.block_lt_of_cell? w _ h5)).trans h5, (hb.cell (World.block_lt_of_cell? w _ h6)).trans h6⟩
def stepL (p : Nat × List Int × List Int) (x : List Int × List Int) : List Int × List Int :=
 if x.1.getD p.1 0 = 0 then x else (plusL x.1.length [1, 65521 - x.1.getD p.1 0] [x.1, p.2.1], addTo x.2 p.2.2 (x.1.getD p.1 0))
theorem splitL_cons (p : Nat × List Int × List Int) (t : SpL) (l b : List Int) : splitL (p :: t) l b = splitL t (stepL p (l, b)).1 (stepL p (l, b)).2 := by
 obtain ⟨c, r, m⟩ := p
 rw [splitL]
 unfold stepL
 simp only []
 split <;> rfl
theorem splitL_snoc : ∀ (t : SpL) (p : Nat × List Int × List Int) (l b : List Int), splitL (t ++ [p]) l b = stepL p (splitL t l b)
 | [], p, l, b => by rw [List.nil_append, splitL_cons]; rfl
 | q :: t, p, l, b => by rw [List.cons_append, splitL_cons, splitL_cons, splitL_snoc t p]
theorem splitL_take (s : SpL) (l b : List Int) {q : Nat} (hq : q < s.length) : splitL (s.take (q + 1)) l b = stepL (s.getD q (0, [], [])) (splitL (s.take q) l b) := by
 rw [List.take_succ_eq_append_getElem hq, splitL_snoc, List.getD_eq_getElem?_getD, List.getElem?_eq_getElem hq]; rfl
theorem splitL_lens : ∀ (s : SpL) (l b : List Int), (splitL s l b).1.length = l.length ∧ (splitL s l b).2.length = b.length
 | [], l, b => ⟨rfl, rfl⟩
 | p :: t, l, b => by
  rw [splitL_cons]
  obtain ⟨h1, h2⟩ := splitL_lens t (stepL p (l, b)).1 (stepL p (l, b)).2
  rw [h1, h2]
  unfold stepL
  split
  ·exact ⟨rfl, rfl⟩
  ·exact ⟨plusL_len _ _ _, addTo_len _ _ _⟩
def addP (by_ m : List Int) (n : Int) (k : Nat) : List Int := (List.range by_.length).map fun j => if j < k then (by_.getD j 0 + n * m.getD j 0) % 65521 else by_.getD j 0
theorem addP_len (by_ m : List Int) (n : Int) (k : Nat) : (addP by_ m n k).length = by_.length := by simp [addP]
theorem addP_zero (by_ m : List Int) (n : Int) : addP by_ m n 0 = by_ := by
 apply List.ext_getElem (by simp [addP])
 intro j h1 h2
 simp only [addP, List.getElem_map, List.getElem_range]
 rw [if_neg (Nat.not_lt_zero j), List.getD_eq_getElem?_getD, List.getElem?_eq_getElem h2]; rfl
theorem addP_end (by_ m : List Int) (n : Int) : addP by_ m n m.length = addTo by_ m n := rfl
theorem addP_get {by_ m : List Int} {n : Int} {k : Nat} (hk : k < by_.length) : (addP by_ m n k).getD k 0 = by_.getD k 0 := by
 rw [addP, getD_map_range _ _ hk, if_neg (Nat.lt_irrefl k)]
theorem addP_set {by_ m : List Int} {n : Int} {k : Nat} : (addP by_ m n k).set k ((by_.getD k 0 + n * m.getD k 0) % 65521) = addP by_ m n (k + 1) := by
 apply List.ext_getElem (by simp [addP])
 intro j h1 h2
 rw [List.getElem_set]
 simp only [addP, List.getElem_map, List.getElem_range]
 by_cases e : k = j
 ·subst e; rw [if_pos rfl, if_pos (by omega)]
 ·rw [if_neg e]
  by_cases h : j < k
  ·rw [if_pos h, if_pos (by omega)]
  ·rw [if_neg h, if_neg (by omega)]
structure SpShape (s : SpL) (N : Nat) : Prop where
 len : s.length ≤ 1000
 rows : ∀ q ∈ s, q.1 < N ∧ q.2.1.length = N ∧ q.2.2.length ≤ s.length ∧ (∀ u ∈ q.2.1, 0 ≤ u ∧ u < 65521) ∧ ∀ u ∈ q.2.2, 0 ≤ u ∧ u < 65521
end Go.Proofs.YtlpldfocljnpnaaDoor
