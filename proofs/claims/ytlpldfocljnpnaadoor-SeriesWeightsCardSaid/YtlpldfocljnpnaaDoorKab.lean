/- What solve does, round by round. What an elimination keeps and leaves solve Clone, copied, numbers, Reverse numbers, Reverse -/
import Derived.Test.YtlpldfocljnpnaaDoorKaa
import Derived.Deep.LoopGhost
import Derived.Deep.OwnRows
set_option maxRecDepth 100000
set_option maxHeartbeats 6400000
set_option linter.unusedSimpArgs false
namespace Go.Proofs.YtlpldfocljnpnaaDoor
open Go.RowKit
theorem infoP : (Tryd.prog.info? 159).map (fun i => (i.zero, i.size, i.bytes)) = some (some (.agg #[.int .i64 0, .int .i64 0]), 2, 16) := by kernel_rfl
def pivCells (l : List (Nat × Nat)) : List Value := l.flatMap fun p => [.int .i64 p.1, .int .i64 p.2]
theorem pivCells_snoc (l : List (Nat × Nat)) (p : Nat × Nat) : pivCells (l ++ [p]) = pivCells l ++ [.int .i64 p.1, .int .i64 p.2] := by simp [pivCells]
structure SolveInv (w wr : World) (base sb cb n m : Nat) (v lv : Value) (s : Sys) : Prop where
 ok : okM s.rows n m
 few : s.piv.length ≤ n
 det : 0 ≤ s.det ∧ s.det < 65521
 mem : ∃ vs, OwnMv wr base v s.rows vs ∧ (∀ u ∈ vs, u.ownBlock ≠ some cb)
 sys : wr.heap[sb]? = some (.cells #[v, .bool s.turned] 152 (0, 0))
 piv : wr.ownsRow base 159 2 lv s.piv.length (pivCells s.piv)
 cols : wr.heap[cb]? = w.heap[cb]?
 below : Below base w wr
theorem own_form {w : World} {base n : Nat} {e : TypeId} {size : Nat} {v : Value} {xs : List Value} (h : w.ownsRow base e size v n xs) : ∃ A c, v = .slice A n c := by
 rcases h.2 with ⟨rfl, rfl⟩ | ⟨g, cap, cur, rfl, _⟩
 ·exact ⟨none, 0, rfl⟩
 ·exact ⟨_, cap, rfl⟩
theorem own_of_block {w w' : World} {base n : Nat} {e : TypeId} {size : Nat} {v : Value} {xs : List Value} (h : w.ownsRow base e size v n xs) (hb : ∀ g, v.ownBlock = some g → w'.heap[g]? = w.heap[g]?) : w'.ownsRow base e size v n xs := by
 refine ⟨h.1, ?_⟩
 rcases h.2 with h | ⟨g, cap, cur, rfl, h1, h2, h3⟩
 ·exact .inl h
 ·exact .inr ⟨g, cap, cur, rfl, h1, (hb g rfl).trans h2, h3⟩
theorem okM_swap {rs : List (List Int)} {n m i j : Nat} (h : okM rs n m) (hi : i < n) (hj : j < n) : okM (swapM rs i j) n m := by
 have g : ∀ k, k < n → rs.getD k [] ∈ rs := fun k hk => by
  rw [List.getD_eq_getElem?_getD, List.getElem?_eq_getElem (by rw [h.1]; exact hk)]
  exact List.getElem_mem _
 refine ⟨by simp [swapM, h.1], fun r hr => ?_⟩
 unfold swapM at hr
 rcases List.mem_or_eq_of_mem_set hr with hr | rfl
 ·rcases List.mem_or_eq_of_mem_set hr with hr | rfl
  ·exact h.2 r hr
  ·exact h.2 _ (g j hj)
 ·exact h.2 _ (g i hi)
theorem okM_clear {rs : List (List Int)} {n m row col : Nat} (h : okM rs n m) (hrow : row < n) : okM (clearM rs row col) n m := by
 refine ⟨by simp [clearM, h.1], fun r hr => ?_⟩
 obtain ⟨i, hi, rfl⟩ := List.mem_map.1 hr
 have hi' : i < n := by have := List.mem_range.1 hi; rw [h.1] at this; exact this
 split
 ·refine ⟨by rw [ownR_len, h.row hrow], fun x hx => ?_⟩
  unfold ownR scaleR at hx
  obtain ⟨j, _, rfl⟩ := List.mem_map.1 hx
  exact ⟨Int.emod_nonneg _ (by decide), Int.emod_lt_of_pos _ (by decide)⟩
 ·split
  ·refine ⟨h.row hi', fun x hx => ?_⟩
   have : rs.getD i [] ∈ rs := by
    rw [List.getD_eq_getElem?_getD, List.getElem?_eq_getElem (by rw [h.1]; exact hi')]
    exact List.getElem_mem _
   exact (h.2 _ this).2 x hx
  ·refine ⟨by rw [← h.row hi']; simp [subR], fun x hx => ?_⟩
   unfold subR at hx
   obtain ⟨j, _, rfl⟩ := List.mem_map.1 hx
   exact ⟨Int.emod_nonneg _ (by decide), Int.emod_lt_of_pos _ (by decide)⟩
theorem swap_self (rs : List (List Int)) (i : Nat) : swapM rs i i = rs := by
 apply List.ext_getElem?; intro j
 by_cases hi : i < rs.length
 ·have e : rs[i]? = some (rs.getD i []) := by rw [List.getD_eq_getElem?_getD, List.getElem?_eq_getElem hi]; rfl
  rw [swapM, list_set_same e, list_set_same e]
 ·rw [swapM, List.set_eq_of_length_le (by simp; omega), List.set_eq_of_length_le (by omega)]
theorem solve_fin {w W1 W2 W3 : World} {base sb cb n m i k L : Nat} {v lv lv' : Value} {s : Sys} {vs2 : List Value} {cs : Array Value} (hL : s.piv.length = L) (hok : okM s.rows n m)
  (hLi : L ≤ i) (hin : i < n) (hO : OwnMv W2 base v (clearM (swapM s.rows i L) L k) vs2) (hcb : ∀ u ∈ vs2, u.ownBlock ≠ some cb) (hsbv : ∀ u ∈ vs2, u.ownBlock ≠ some sb)
  (hs : W1.heap[sb]? = some (.cells #[v, .bool (if i = L then s.turned else !s.turned)] 152 (0, 0))) (hp : W1.ownsRow base 159 2 lv L (pivCells s.piv))
  (hdo : v.ownBlock = none ∨ v.ownBlock ≠ lv.ownBlock) (hdr : ∀ u ∈ vs2, u.ownBlock = none ∨ u.ownBlock ≠ lv.ownBlock)
  (hcc : W1.heap[cb]? = w.heap[cb]?) (hcw : w.heap[cb]? = some (.cells cs 3 (0, 0))) (hB : Below base w W1) (hBw : base ≤ w.heap.size) (hK : KeptBut vs2 W1 W2)
  (hg : (W2.alloc (.cells #[.int .i64 L, .int .i64 k] 159)).grownBy W3 lv.ownBlock) (ho : W3.ownsRow base 159 2 lv' (L + 1) (pivCells s.piv ++ [.int .i64 L, .int .i64 k])) :
  SolveInv w W3 base sb cb n m v lv' (pivS s k i) := by
 have hLn : L < n := by omega
 have hb1 : Below W2.heap.size W2 (W2.alloc (.cells #[.int .i64 L, .int .i64 k] 159)) := (Below.refl _ _).alloc (Nat.le_refl _) _
 have hvs : ∀ u ∈ vs2, ∀ g, u.ownBlock = some g → base ≤ g := fun u hu g e => (hO.ge u hu g e).1
 have hBB : Below base w W2 := hB.trans (hK.below (by have := hB.size; omega) hvs)
 have hlvb : ∀ b t cs', t ≠ 159 → W1.heap[b]? = some (.cells cs' t (0, 0)) → some b ≠ lv.ownBlock := by
  intro b t cs' ht hb e
  rcases hp.2 with ⟨e2, _⟩ | ⟨g, cap, cur, e2, _, hh, _⟩
  ·rw [e2] at e; cases e
  ·rw [e2] at e
   have : b = g := by simpa [Value.ownBlock] using e
   subst this
   rw [hb] at hh
   injection hh with hh
   injection hh with _ h2
   exact ht h2
 have hslt := lt_of_block hs
 have hclt := lt_of_block (hcc.trans hcw)
 have h3 : ∀ b, b < W1.heap.size → (∀ u ∈ vs2, u.ownBlock ≠ some b) → some b ≠ lv.ownBlock → W3.heap[b]? = W1.heap[b]? := fun b hb hn hne =>
  (hg.block b (by have := hK.size; simp; omega) hne).trans ((hb1.block b (by have := hK.size; omega)).trans (hK.block b hb hn))
 refine ⟨okM_clear (okM_swap hok hin (by rw [hL]; exact hLn)) (by rw [hL]; exact hLn), by simp only [pivS, List.length_append, List.length_singleton]; omega, ?_, ?_, ?_, ?_, ?_, ?_⟩
 ·exact ⟨Int.emod_nonneg _ (by decide), Int.emod_lt_of_pos _ (by decide)⟩
 ·refine ⟨vs2, ?_, hcb⟩
  simp only [pivS, hL]
  exact (hO.kept hb1).grownBy hg hdo hdr
 ·simp only [pivS, hL]
  rw [h3 sb hslt hsbv (hlvb sb _ _ (by decide) hs)]
  exact hs
 ·simp only [pivS, hL, List.length_append, List.length_singleton, pivCells_snoc]
  exact ho
 ·rw [h3 cb hclt hcb (hlvb cb _ _ (by decide) (hcc.trans hcw))]
  exact hcc
 ·exact (hBB.alloc (by have := hBB.size; omega) _).grown hg (by have := hBB.size; simp; omega) (fun j hj => (hp.lt j hj).1)
theorem findP_none {rs : List (List Int)} {k : Nat} : ∀ {f i : Nat}, (∀ j, i ≤ j → j < i + f → gM rs j k = 0) → findP rs k f i = none
 | 0, _, _ => rfl
 | f + 1, i, h => by rw [findP, if_pos (h i (Nat.le_refl _) (by omega))]; exact findP_none (fun j h1 h2 => h j (by omega) (by omega))
theorem findP_some {rs : List (List Int)} {k p : Nat} : ∀ {f i : Nat}, i ≤ p → p < i + f → (∀ j, i ≤ j → j < p → gM rs j k = 0) → gM rs p k ≠ 0 → findP rs k f i = some p
 | 0, _, h1, h2, _, _ => by omega
 | f + 1, i, h1, h2, h3, h4 => by
  by_cases e : i = p
  ·subst e; rw [findP, if_neg h4]
  ·rw [findP, if_pos (h3 i (Nat.le_refl _) (by omega))]
   exact findP_some (by omega) (by omega) (fun j a b => h3 j (by omega) b) h4
theorem swap_row {rs : List (List Int)} {i j : Nat} (hj : j < rs.length) : (swapM rs i j).getD j [] = rs.getD i [] := by
 rw [swapM, List.getD_eq_getElem?_getD, List.getElem?_set_self (by simpa using hj)]; rfl
theorem swap_get {rs : List (List Int)} {i j : Nat} (hj : j < rs.length) : (swapM rs i j)[j]? = some (rs.getD i []) := by
 rw [swapM, List.getElem?_set_self (by simpa using hj)]
theorem swap_fin {w W : World} {base g n C sb i L : Nat} {v u x : Value} {rs : List (List Int)} {vs : List Value} {t : Bool} (hO : OwnMv W base v rs vs) (hv : v = .slice (some ⟨g, 0, none⟩) n C) (hr : rs[i]? = some (rs.getD i [])) (hrL : rs[L]? = some (rs.getD L []))
  (hu : vs[i]? = some u) (hx : vs[L]? = some x) (hij : i ≠ L) (hs : W.heap[sb]? = some (.cells #[v, .bool t] 152 (0, 0))) (hsb : base ≤ sb) (hsg : sb ≠ g) (hg : base ≤ g) (hB : Below base w W) :
  OwnMv (((W.setCell ⟨g, i, none⟩ x).setCell ⟨g, L, none⟩ u).setCell ⟨sb, 1, none⟩ (.bool !t)).drew base v (swapM rs i L) ((vs.set i x).set L u) ∧
  (((W.setCell ⟨g, i, none⟩ x).setCell ⟨g, L, none⟩ u).setCell ⟨sb, 1, none⟩ (.bool !t)).drew.heap[sb]? = some (.cells #[v, .bool !t] 152 (0, 0)) ∧
  Below base w (((W.setCell ⟨g, i, none⟩ x).setCell ⟨g, L, none⟩ u).setCell ⟨sb, 1, none⟩ (.bool !t)).drew ∧
  (∀ b, b ≠ g → b ≠ sb → (((W.setCell ⟨g, i, none⟩ x).setCell ⟨g, L, none⟩ u).setCell ⟨sb, 1, none⟩ (.bool !t)).drew.heap[b]? = W.heap[b]?) := by
 have h1 := hO.swap hv hr hrL hu hx hij
 have hs2 : ((W.setCell ⟨g, i, none⟩ x).setCell ⟨g, L, none⟩ u).heap[sb]? = some (.cells #[v, .bool t] 152 (0, 0)) := by
  rw [Below.heap_setCell _ _ _ _ hsg, Below.heap_setCell _ _ _ _ hsg]; exact hs
 have hne := sys_ne h1 hs2
 have hg3 : ((W.setCell ⟨g, i, none⟩ x).setCell ⟨g, L, none⟩ u).grownBy (((W.setCell ⟨g, i, none⟩ x).setCell ⟨g, L, none⟩ u).setCell ⟨sb, 1, none⟩ (.bool !t)).drew (some sb) :=
  ⟨rfl, rfl, rfl, by simp, fun k _ hk => Below.heap_setCell _ _ _ _ (fun e => hk (by rw [e]))⟩
 refine ⟨h1.grownBy hg3 (.inr (by rw [hv]; simp [Value.ownBlock]; omega)) (fun y hy => .inr (hne y hy)), ?_, ?_, fun b h2 h3 => ?_⟩
 ·have := heap_setCell_same ((W.setCell ⟨g, i, none⟩ x).setCell ⟨g, L, none⟩ u) sb 1 #[v, .bool t] 152 (.bool !t) hs2
  exact this
 ·exact (((hB.setCell hg _).setCell hg _).setCell hsb _).drew
 ·show (((W.setCell ⟨g, i, none⟩ x).setCell ⟨g, L, none⟩ u).setCell ⟨sb, 1, none⟩ (.bool !t)).heap[b]? = _
  rw [Below.heap_setCell _ _ _ _ h3, Below.heap_setCell _ _ _ _ h2, Below.heap_setCell _ _ _ _ h2]
theorem own_type {w : World} {base n b : Nat} {e t : TypeId} {size : Nat} {v : Value} {xs : List Value} {cs : Array Value} {fr : Nat × Nat} (h : w.ownsRow base e size v n xs) (hb : w.heap[b]? = some (.cells cs t fr)) (hne : t ≠ e) : v.ownBlock ≠ some b := by
 intro hk
 rcases h.2 with ⟨rfl, _⟩ | ⟨g, cap, cur, rfl, _, hh, _⟩
 ·simp [Value.ownBlock] at hk
 ·have : g = b := by simpa [Value.ownBlock] using hk
  subst this
  rw [hb] at hh
  injection hh with hh
  injection hh with _ ht
  exact hne ht
end Go.Proofs.YtlpldfocljnpnaaDoor
namespace Go.Proofs.YtlpldfocljnpnaaDoor
def G (rs : List (List Int)) : Mx := fun i k => toF (gM rs i k)
def swapF (A : Mx) (i j : Nat) : Mx := fun a b => A (if a = j then i else if a = i then j else a) b
def clrF (A : Mx) (r k : Nat) : Mx := fun a b => if a = r then A r b * inv (A r k) else A a b - A a k * (A r b * inv (A r k))
theorem getD_set {α : Type} (l : List α) (d v : α) (i j : Nat) : (l.set i v).getD j d = if j = i ∧ i < l.length then v else l.getD j d := by
 rw [List.getD_eq_getElem?_getD, List.getElem?_set, List.getD_eq_getElem?_getD]
 by_cases h : i = j
 ·subst h
  by_cases hl : i < l.length
  ·rw [if_pos rfl, if_pos hl, if_pos ⟨rfl, hl⟩]; rfl
  ·rw [if_pos rfl, if_neg hl, if_neg (fun h => hl h.2), List.getElem?_eq_none (by omega)]
 ·rw [if_neg h, if_neg (fun h2 => h h2.1.symm)]
theorem G_swap {rs : List (List Int)} {i j : Nat} (hi : i < rs.length) (hj : j < rs.length) : G (swapM rs i j) = swapF (G rs) i j := by
 funext a b
 unfold G swapF gM swapM
 rw [getD_set, getD_set]
 by_cases h1 : a = j
 ·rw [if_pos ⟨h1, by simpa using hj⟩, if_pos h1]
 ·rw [if_neg (fun h => h1 h.1), if_neg h1]
  by_cases h2 : a = i
  ·rw [if_pos ⟨h2, hi⟩, if_pos h2]
  ·rw [if_neg (fun h => h2 h.1), if_neg h2]
theorem range_getD {f : Nat → Int} {n k : Nat} : ((List.range n).map f).getD k 0 = if k < n then f k else 0 := by
 rw [List.getD_eq_getElem?_getD, List.getElem?_map]
 by_cases h : k < n
 ·rw [if_pos h, List.getElem?_range h]; rfl
 ·rw [if_neg h, List.getElem?_eq_none (by simpa using h)]; rfl
theorem getD_none {l : List Int} {k : Nat} (h : l.length ≤ k) : l.getD k 0 = 0 := by
 rw [List.getD_eq_getElem?_getD, List.getElem?_eq_none h]; rfl
theorem scaleR_get (r : List Int) (x : Int) (k : Nat) : (scaleR r x).getD k 0 = r.getD k 0 * x % 65521 := by
 rw [scaleR, range_getD]
 split
 ·rfl
 ·rw [getD_none (by omega)]; simp
theorem subR_get {r own : List Int} (h : own.length = r.length) (x : Int) (k : Nat) : (subR r own x).getD k 0 = (r.getD k 0 + x * own.getD k 0) % 65521 := by
 rw [subR, range_getD]
 split
 ·rfl
 ·rw [getD_none (by omega), getD_none (by omega)]; simp
theorem G_clear {rs : List (List Int)} {n m r k : Nat} (h : okM rs n m) (hr : r < n) : G (clearM rs r k) = clrF (G rs) r k := by
 have hinv : toF (invN (gM rs r k)) = inv (G rs r k) := toF_inv (h.num r k)
 have hown : ∀ b, toF ((ownR rs r k).getD b 0) = G rs r b * inv (G rs r k) := fun b => by
  rw [ownR, scaleR_get, toF_emod, toF_mul, hinv]; rfl
 funext a b
 by_cases ha : a < n
 ·have e : (clearM rs r k).getD a [] = if a = r then ownR rs r k else if gM rs a k = 0 then rs.getD a [] else subR (rs.getD a []) (ownR rs r k) (65521 - gM rs a k) := by
   rw [clearM, List.getD_eq_getElem?_getD, List.getElem?_map, List.getElem?_range (by rw [h.1]; exact ha)]; rfl
  unfold clrF
  by_cases h1 : a = r
  ·rw [if_pos h1, ← hown b, G, gM, e, if_pos h1]
  ·rw [if_neg h1, ← hown b, G, gM, e, if_neg h1]
   by_cases h2 : gM rs a k = 0
   ·rw [if_pos h2, show G rs a k = 0 from by rw [G, h2, toF_zero]]
    show toF (gM rs a b) = toF (gM rs a b) - _
    grind
   ·have hl : (ownR rs r k).length = (rs.getD a []).length := by rw [h.row ha]; rw [ownR]; simp [scaleR]; exact h.row hr
    rw [if_neg h2, subR_get hl, toF_emod, toF_add, toF_mul, toF_sub, toF_p]
    show toF (gM rs a b) + (0 - toF (gM rs a k)) * _ = toF (gM rs a b) - toF (gM rs a k) * _
    grind
 ·have z : ∀ x, G rs a x = 0 := fun x => by
   rw [G, gM, List.getD_eq_getElem?_getD (l := rs), List.getElem?_eq_none (by rw [h.1]; omega)]; rfl
  unfold clrF
  rw [if_neg (by omega), z, z, G, gM, List.getD_eq_getElem?_getD (l := clearM rs r k), List.getElem?_eq_none (by simp [clearM, h.1]; omega)]
  show (0 : Fp) = 0 - 0 * _
  grind
def Sp (n : Nat) (A : Mx) (v : Nat → Fp) : Prop := ∃ c : Nat → Fp, ∀ k, v k = S n (fun i => c i * A i k)
theorem Sp.row {n i : Nat} (A : Mx) (hi : i < n) : Sp n A (A i) :=
 ⟨fun j => if j = i then 1 else 0, fun k => by rw [S_one (k := i) hi (fun j _ hn => by simp only [hn, if_false]; grind)]; simp only [if_true]; grind⟩
theorem Sp.add {n : Nat} {A : Mx} {u v : Nat → Fp} (hu : Sp n A u) (hv : Sp n A v) (x y : Fp) : Sp n A (fun k => x * u k + y * v k) := by
 obtain ⟨c, hc⟩ := hu
 obtain ⟨d, hd⟩ := hv
 refine ⟨fun i => x * c i + y * d i, fun k => ?_⟩
 show x * u k + y * v k = S n (fun i => (x * c i + y * d i) * A i k)
 rw [hc, hd, ← S_mul, ← S_mul, ← S_add]
 exact S_congr fun i _ => by grind
theorem Sp.trans {n m : Nat} {A B : Mx} {v : Nat → Fp} (hv : Sp n A v) (h : ∀ i, i < n → Sp m B (A i)) : Sp m B v := by
 obtain ⟨c, hc⟩ := hv
 have h' : ∀ i, ∃ d : Nat → Fp, i < n → ∀ k, A i k = S m (fun j => d j * B j k) := fun i => by
  by_cases hi : i < n
  ·obtain ⟨d, hd⟩ := h i hi; exact ⟨d, fun _ => hd⟩
  ·exact ⟨fun _ => 0, fun h => absurd h hi⟩
 have hd := fun i => Classical.choose_spec (h' i)
 generalize (fun i => Classical.choose (h' i)) = d at hd
 refine ⟨fun j => S n (fun i => c i * Classical.choose (h' i) j), fun k => ?_⟩
 rw [hc, S_congr (g := fun i => S m (fun j => c i * (Classical.choose (h' i) j * B j k))) (fun i hi => by rw [hd i hi k, S_mul]), S_swap]
 refine S_congr fun j _ => ?_
 rw [← S_mul']
 exact S_congr fun i _ => by grind
structure El (n : Nat) (before : Nat → Nat → Prop) (A : Mx) (r : Nat) (c : Nat → Nat) (done : List Nat) : Prop where
 le : r ≤ n
 mem : ∀ i, i < r → c i ∈ done
 pv : ∀ i, i < r → ∀ a, a < n → A a (c i) = if a = i then 1 else 0
 np : ∀ k, k ∈ done → (∀ i, i < r → c i ≠ k) → ∀ i, i < n → A i k ≠ 0 → i < r ∧ before (c i) k
 ord : ∀ i j, i < j → j < r → before (c i) (c j)
theorem El.none {n r k : Nat} {before : Nat → Nat → Prop} {A : Mx} {c : Nat → Nat} {done : List Nat} (h : El n before A r c done) (hz : ∀ a, r ≤ a → a < n → A a k = 0) (hb : ∀ x, x ∈ done → before x k) : El n before A r c (done ++ [k]) := by
 refine ⟨h.le, fun i hi => List.mem_append_left _ (h.mem i hi), h.pv, fun j hj hn i hi hne => ?_, h.ord⟩
 rcases List.mem_append.1 hj with hj | hj
 ·exact h.np j hj hn i hi hne
 ·have e : j = k := by simpa using hj
  subst e
  by_cases hir : i < r
  ·exact ⟨hir, hb _ (h.mem i hir)⟩
  ·exact absurd (hz i (by omega) hi) hne
theorem El.some {n r k p : Nat} {before : Nat → Nat → Prop} {A : Mx} {c : Nat → Nat} {done : List Nat} (h : El n before A r c done) (hp : r ≤ p) (hpn : p < n) (hne : A p k ≠ 0) (_hnd : k ∉ done) (hb : ∀ x, x ∈ done → before x k) :
  El n before (clrF (swapF A p r) r k) (r + 1) (fun i => if i = r then k else c i) (done ++ [k]) := by
 have hrow : swapF A p r r k ≠ 0 := by unfold swapF; rw [if_pos rfl]; exact hne
 have hm := mul_inv hrow
 refine ⟨by omega, fun i hi => ?_, fun i hi a ha => ?_, fun j hj hn i hi hnz => ?_, fun i j hij hj => ?_⟩
 ·show (if i = r then k else c i) ∈ _
  split
  ·simp
  ·exact List.mem_append_left _ (h.mem i (by omega))
 ·show clrF (swapF A p r) r k a (if i = r then k else c i) = _
  by_cases e : i = r
  ·subst e
   rw [if_pos rfl]
   unfold clrF
   by_cases e2 : a = i
   ·rw [if_pos e2, if_pos e2, hm]
   ·rw [if_neg e2, if_neg e2, hm]; grind
  ·have hi' : i < r := by omega
   have z1 : A p (c i) = 0 := by rw [h.pv i hi' p hpn, if_neg (by omega)]
   have z2 : swapF A p r r (c i) = 0 := by unfold swapF; rw [if_pos rfl]; exact z1
   rw [if_neg e]
   unfold clrF
   rw [z2]
   by_cases e2 : a = r
   ·rw [if_pos e2, if_neg (by omega)]; grind
   ·rw [if_neg e2]
    have z3 : swapF A p r a (c i) = if a = i then 1 else 0 := by
     unfold swapF
     rw [if_neg e2]
     by_cases e3 : a = p
     ·rw [if_pos e3, h.pv i hi' r (by omega), if_neg (by omega), if_neg (by omega)]
     ·rw [if_neg e3]; exact h.pv i hi' a ha
    rw [z3]; grind
 ·have hjk : j ≠ k := fun e => (hn r (by omega)) (by rw [if_pos rfl, e])
  have hjd : j ∈ done := by
   rcases List.mem_append.1 hj with hj | hj
   ·exact hj
   ·exact absurd (by simpa using hj) hjk
  have hn' : ∀ i, i < r → c i ≠ j := fun i hi => by have := hn i (by omega); rwa [if_neg (by omega)] at this
  have zr : ∀ a, r ≤ a → a < n → A a j = 0 := fun a h1 h2 => Classical.byContradiction fun hc => by have := (h.np j hjd hn' a h2 hc).1; omega
  have z2 : swapF A p r r j = 0 := by unfold swapF; rw [if_pos rfl]; exact zr p hp hpn
  unfold clrF at hnz
  rw [z2] at hnz
  by_cases e2 : i = r
  ·rw [if_pos e2] at hnz; exact absurd (by grind) hnz
  ·rw [if_neg e2] at hnz
   have hnz2 : swapF A p r i j ≠ 0 := fun e => hnz (by rw [e]; grind)
   unfold swapF at hnz2
   rw [if_neg e2] at hnz2
   by_cases e3 : i = p
   ·rw [if_pos e3] at hnz2; exact absurd (zr r (Nat.le_refl _) (by omega)) hnz2
   ·rw [if_neg e3] at hnz2
    have := h.np j hjd hn' i hi hnz2
    exact ⟨by omega, by rw [if_neg e2]; exact this.2⟩
 ·show before (if i = r then k else c i) (if j = r then k else c j)
  rw [if_neg (by omega)]
  split
  ·exact hb _ (h.mem i (by omega))
  ·exact h.ord i j hij (by omega)
theorem sp_swap {n p r : Nat} (A : Mx) (hp : p < n) (hr : r < n) : ∀ a, a < n → Sp n A (swapF A p r a) := fun a ha => Sp.row A (by split; exact hp; split; exact hr; exact ha)
theorem swap_swap (A : Mx) (p r : Nat) : swapF (swapF A p r) p r = A := by
 funext a b
 unfold swapF
 by_cases h1 : a = r
 ·subst h1
  rw [if_pos rfl]
  by_cases h2 : p = a
  ·rw [if_pos h2, h2]
  ·rw [if_neg h2, if_pos rfl]
 ·rw [if_neg h1]
  by_cases h2 : a = p
  ·subst h2; rw [if_pos rfl, if_pos rfl]
  ·rw [if_neg h2, if_neg h1, if_neg h2]
theorem sp_clr {n r k : Nat} (A : Mx) (hr : r < n) : ∀ a, a < n → Sp n A (clrF A r k a) := fun a ha => by
 by_cases h : a = r
 ·have e : clrF A r k a = fun b => inv (A r k) * A r b + 0 * A r b := by funext b; unfold clrF; rw [if_pos h]; grind
  rw [e]; exact (Sp.row A hr).add (Sp.row A hr) _ _
 ·have e : clrF A r k a = fun b => 1 * A a b + (- (A a k * inv (A r k))) * A r b := by funext b; unfold clrF; rw [if_neg h]; grind
  rw [e]; exact (Sp.row A ha).add (Sp.row A hr) _ _
theorem sp_unclr {n r k : Nat} (A : Mx) (hr : r < n) (hne : A r k ≠ 0) : ∀ a, a < n → Sp n (clrF A r k) (A a) := fun a ha => by
 have hm := mul_inv hne
 by_cases h : a = r
 ·have e : A a = fun b => A r k * clrF A r k r b + 0 * clrF A r k r b := by funext b; unfold clrF; rw [if_pos rfl, h]; grind
  rw [e]; exact (Sp.row _ hr).add (Sp.row _ hr) _ _
 ·have e : A a = fun b => 1 * clrF A r k a b + A a k * clrF A r k r b := by funext b; unfold clrF; rw [if_neg h, if_pos rfl]; grind
  rw [e]; exact (Sp.row _ ha).add (Sp.row _ hr) _ _
theorem alt_swap {n p r : Nat} {f : Mx → Fp} (hf : Alt n f) (A : Mx) (hp : p < n) (hr : r < n) : f (swapF A p r) = (if p = r then 1 else -1) * f A := by
 by_cases e : p = r
 ·subst e
  rw [if_pos rfl, show swapF A p p = A from by funext a b; unfold swapF; split; rename_i h; rw [h]; rfl]; grind
 ·rw [if_neg e, show swapF A p r = upd (upd A p (A r)) r (A p) from by funext a b; unfold swapF upd; split; rfl; split; rfl; rfl, hf.swap A hp hr e]; grind
theorem alt_clr {n r k : Nat} {f : Mx → Fp} (hf : Alt n f) (A : Mx) (hr : r < n) (hne : A r k ≠ 0) : A r k * f (clrF A r k) = f A := by
 have hm := mul_inv hne
 have h1 := hf.scale A r (inv (A r k)) hr
 have h2 := hf.clear (upd A r (fun b => inv (A r k) * A r b)) (fun i => - A i k) hr n (Nat.le_refl _)
 have e : f (clrF A r k) = f (fun i b => if i ≠ r ∧ i < n then upd A r (fun b => inv (A r k) * A r b) i b + - A i k * upd A r (fun b => inv (A r k) * A r b) r b else upd A r (fun b => inv (A r k) * A r b) i b) := by
  refine hf.congr _ _ fun a b ha _ => ?_
  unfold clrF upd
  by_cases h : a = r
  ·simp only [h, if_true, ne_eq, not_true_eq_false, false_and, if_false]; grind
  ·simp only [h, if_true, if_false, ne_eq, not_false_eq_true, true_and, ha]; grind
 rw [e, h2, h1]; grind
structure Run (n m : Nat) (before : Nat → Nat → Prop) (A : Mx) (s : Sys) (done : List Nat) : Prop where
 ok : okM s.rows n m
 rowsOf : ∀ (i : Nat) (p : Nat × Nat), s.piv[i]? = some p → p.1 = i
 el : El n before (G s.rows) s.piv.length (fun i => (s.piv.getD i (0, 0)).2) done
 into : ∀ a, a < n → Sp n A (G s.rows a)
 back : ∀ a, a < n → Sp n (G s.rows) (A a)
 det : ∀ f, Alt n f → f A = toF s.det * (if s.turned then -1 else 1) * f (G s.rows)
 ne : toF s.det ≠ 0
 bd : 0 ≤ s.det ∧ s.det < 65521
theorem findP_spec (rs : List (List Int)) (k : Nat) : ∀ (f i : Nat), match findP rs k f i with
  | none => ∀ j, i ≤ j → j < i + f → gM rs j k = 0
  | some p => i ≤ p ∧ p < i + f ∧ gM rs p k ≠ 0
 | 0, i => by simp only [findP]; intro j h1 h2; omega
 | f + 1, i => by
  rw [findP]
  by_cases h : gM rs i k = 0
  ·rw [if_pos h]
   have := findP_spec rs k f (i + 1)
   revert this
   split
   ·intro h2 j h3 h4
    by_cases e : j = i
    ·rw [e, h]
    ·exact h2 j (by omega) (by omega)
   ·rintro ⟨h2, h3, h4⟩; exact ⟨by omega, by omega, h4⟩
  ·rw [if_neg h]; exact ⟨Nat.le_refl _, by omega, h⟩
theorem Run.step {n m k : Nat} {before : Nat → Nat → Prop} {A : Mx} {s : Sys} {done : List Nat} (h : Run n m before A s done) (hb : ∀ x, x ∈ done → before x k) (hk : k ∉ done) : Run n m before A (stepS s k) (done ++ [k]) := by
 have hsp := findP_spec s.rows k (s.rows.length - s.piv.length) s.piv.length
 have hle := h.el.le
 rw [h.ok.1] at hsp
 unfold stepS
 rw [h.ok.1]
 cases hf : findP s.rows k (n - s.piv.length) s.piv.length with
 | none =>
  rw [hf] at hsp
  exact ⟨h.ok, h.rowsOf, h.el.none (fun a h1 h2 => by show toF _ = 0; rw [hsp a h1 (by omega), toF_zero]) hb, h.into, h.back, h.det, h.ne, h.bd⟩
 | some p =>
  rw [hf] at hsp
  obtain ⟨h1, h2, h3⟩ := hsp
  have hpn : p < n := by omega
  have hrn : s.piv.length < n := by omega
  have hG : G (pivS s k p).rows = clrF (swapF (G s.rows) p s.piv.length) s.piv.length k := by
   show G (clearM (swapM s.rows p s.piv.length) s.piv.length k) = _
   rw [G_clear (okM_swap h.ok hpn hrn) hrn, G_swap (by rw [h.ok.1]; exact hpn) (by rw [h.ok.1]; exact hrn)]
  have hpk : swapF (G s.rows) p s.piv.length s.piv.length k = G s.rows p k := by unfold swapF; rw [if_pos rfl]
  have hne : G s.rows p k ≠ 0 := fun e => h3 ((toF_eq_zero (h.ok.num p k)).1 e)
  have hne2 : swapF (G s.rows) p s.piv.length s.piv.length k ≠ 0 := by rw [hpk]; exact hne
  have hdet : toF (pivS s k p).det = toF s.det * G s.rows p k := by
   show toF (s.det * gM (swapM s.rows p s.piv.length) s.piv.length k % 65521) = _
   rw [toF_emod, toF_mul]
   show _ * G (swapM s.rows p s.piv.length) s.piv.length k = _
   rw [G_swap (by rw [h.ok.1]; exact hpn) (by rw [h.ok.1]; exact hrn), hpk]
  have hlen : (pivS s k p).piv.length = s.piv.length + 1 := by simp [pivS]
  refine ⟨okM_clear (okM_swap h.ok hpn hrn) hrn, fun i q hq => ?_, ?_, fun a ha => ?_, fun a ha => ?_, fun f hA => ?_, ?_, ?_⟩
  ·simp only [pivS] at hq
   by_cases hi : i < s.piv.length
   ·rw [List.getElem?_append_left hi] at hq; exact h.rowsOf i q hq
   ·have hlt := (List.getElem?_eq_some_iff.1 hq).1
    have e : i = s.piv.length := by simp at hlt; omega
    subst e
    rw [List.getElem?_append_right (Nat.le_refl _), Nat.sub_self] at hq
    cases hq; rfl
  ·rw [hG, hlen]
   have hc : (fun i => ((pivS s k p).piv.getD i (0, 0)).2) = fun i => if i = s.piv.length then k else if i < s.piv.length then (s.piv.getD i (0, 0)).2 else 0 := by
    funext i
    simp only [pivS]
    rw [List.getD_eq_getElem?_getD, List.getD_eq_getElem?_getD]
    by_cases h4 : i < s.piv.length
    ·rw [List.getElem?_append_left h4, if_neg (by omega), if_pos h4]
    ·by_cases h5 : i = s.piv.length
     ·subst h5; rw [List.getElem?_append_right (Nat.le_refl _), Nat.sub_self, if_pos rfl]; rfl
     ·rw [if_neg h5, if_neg h4, List.getElem?_eq_none (by simp; omega)]; rfl
   have he := h.el.some h1 hpn hne hk hb
   rw [hc]
   refine ⟨he.le, fun i hi => ?_, fun i hi a ha => ?_, fun j hj hn i hi hnz => ?_, fun i j hij hj => ?_⟩
   ·have := he.mem i hi
    by_cases e : i = s.piv.length
    ·simp [e]
    ·have hi' : i < s.piv.length := by omega
     simpa [e, hi'] using this
   ·have := he.pv i hi a ha
    by_cases e : i = s.piv.length
    ·simpa [e] using this
    ·have hi' : i < s.piv.length := by omega
     simpa [e, hi'] using this
   ·have := he.np j hj (fun i hi => by
     have := hn i hi
     by_cases e : i = s.piv.length
     ·simpa [e] using this
     ·have hi' : i < s.piv.length := by omega
      simpa [e, hi'] using this) i hi hnz
    refine ⟨this.1, ?_⟩
    have h2 := this.2
    by_cases e : i = s.piv.length
    ·simpa [e] using h2
    ·have hi' : i < s.piv.length := by omega
     simpa [e, hi'] using h2
   ·have := he.ord i j hij hj
    have hi' : i < s.piv.length := by omega
    have hi2 : i ≠ s.piv.length := by omega
    by_cases e : j = s.piv.length
    ·simpa [e, hi', hi2] using this
    ·have hj' : j < s.piv.length := by omega
     simpa [e, hj', hi', hi2] using this
  ·rw [hG]
   exact ((sp_clr _ hrn a ha).trans (sp_swap _ hpn hrn)).trans h.into
  ·rw [hG]
   refine (h.back a ha).trans fun i hi => ?_
   have := sp_swap (swapF (G s.rows) p s.piv.length) hpn hrn i hi
   rw [swap_swap] at this
   exact this.trans (sp_unclr _ hrn hne2)
  ·rw [h.det f hA, hdet, hG]
   have e1 := alt_swap hA (G s.rows) hpn hrn
   have e2 := alt_clr hA (swapF (G s.rows) p s.piv.length) hrn hne2
   rw [hpk] at e2
   have e3 : (if (pivS s k p).turned = true then (-1 : Fp) else 1) = (if s.turned = true then -1 else 1) * (if p = s.piv.length then 1 else -1) := by
    have e5 : (pivS s k p).turned = if p = s.piv.length then s.turned else !s.turned := rfl
    rw [e5]
    by_cases h4 : p = s.piv.length
    ·simp only [h4, if_true]; grind
    ·simp only [h4, if_false]; cases s.turned <;> decide
   have e4 : f (G s.rows) = (if p = s.piv.length then (1 : Fp) else -1) * f (swapF (G s.rows) p s.piv.length) := by
    rw [e1]; split <;> grind
   rw [e3, e4, ← e2]; grind
  ·rw [hdet]
   intro e
   rcases mul_zero_cases e with e | e
   ·exact h.ne e
   ·exact hne e
  ·exact ⟨Int.emod_nonneg _ (by decide), Int.emod_lt_of_pos _ (by decide)⟩
theorem Run.fold {n m : Nat} {before : Nat → Nat → Prop} {A : Mx} : ∀ (todo done : List Nat) (s : Sys), Run n m before A s done → (done ++ todo).Pairwise (fun x y => before x y ∧ x ≠ y) → Run n m before A (todo.foldl stepS s) (done ++ todo)
 | [], done, s, h, _ => by rw [List.append_nil]; exact h
 | k :: todo, done, s, h, hp => by
  have h2 := List.pairwise_append.1 hp
  have e : done ++ k :: todo = (done ++ [k]) ++ todo := by simp
  rw [e] at hp ⊢
  exact Run.fold todo (done ++ [k]) _ (h.step (fun x hx => (h2.2.2 x hx k List.mem_cons_self).1) (fun hx => (h2.2.2 k hx k List.mem_cons_self).2 rfl)) hp
theorem Run.start {rs : List (List Int)} {n m : Nat} (h : okM rs n m) (before : Nat → Nat → Prop) : Run n m before (G rs) ⟨rs, [], 1, false⟩ [] := by
 refine ⟨h, fun i p hp => by simp at hp, ⟨by simp, fun i hi => by simp at hi, fun i hi => by simp at hi, fun k hk => by simp at hk, fun i j _ hj => by simp at hj⟩, fun a ha => Sp.row _ ha, fun a ha => Sp.row _ ha, fun f _ => ?_, one_ne_zero, (by decide : (0 : Int) ≤ 1 ∧ (1 : Int) < 65521)⟩
 show f (G rs) = toF 1 * (if false = true then -1 else 1) * f (G rs)
 rw [toF_one, if_neg (by decide)]; grind
theorem solveS_run {rs : List (List Int)} {n m : Nat} (h : okM rs n m) {before : Nat → Nat → Prop} {cols : List Nat} (hp : cols.Pairwise (fun x y => before x y ∧ x ≠ y)) : Run n m before (G rs) (solveS rs cols false) cols := by
 have := Run.fold cols [] _ (Run.start h before) (by simpa using hp)
 simpa [solveS] using this
end Go.Proofs.YtlpldfocljnpnaaDoor
namespace Go.Proofs.YtlpldfocljnpnaaDoor
open Go.RowKit
theorem solve_any (rs : List (List Int)) (cols : List Nat) (n m sb cb base : Nat) (v : Value) (t : Bool) (ccur : Array Value) (cc : Nat) (vs : List Value) (w : World)
  (h : OwnMv w base v rs vs) (hok : okM rs n m) (hn : n ≤ 1000) (hm : m ≤ 1000) (hcn : cols.length ≤ 1000) (hcols : ∀ k ∈ cols, k < m)
  (hs : w.heap[sb]? = some (.cells #[v, .bool t] 152 (0, 0))) (hsb : base ≤ sb) (hcb : w.heap[cb]? = some (.cells ccur 3 (0, 0))) (hcv : ∀ u ∈ vs, u.ownBlock ≠ some cb)
  (hc : ∀ (j k : Nat), cols[j]? = some k → w.cell? ⟨cb, j, none⟩ = some (.int .i64 k)) :
  Calls Tryd.prog 139 #[.pointer (some ⟨sb, 0, none⟩), .slice (some ⟨cb, 0, none⟩) cols.length cc] w fun e w' =>
   ∃ lv, e = .returned (.tuple #[lv, .int .i64 (solveS rs cols t).det]) ∧ SolveInv w w' base sb cb n m v lv (solveS rs cols t) := by
 obtain ⟨ip, hip, hp0, hp1, hp2⟩ := info_parts infoP
 have hbw : base ≤ w.heap.size := by have := lt_of_block hs; omega
 have hinit : SolveInv w w base sb cb n m v (.slice none 0 0) ⟨rs, [], 1, t⟩ := ⟨hok, Nat.zero_le _, ⟨by show (0:Int) ≤ 1; decide, by show (1:Int) < 65521; decide⟩, ⟨vs, h, hcv⟩, hs, World.ownsRow_nil _ _ _ _, rfl, Below.refl _ _⟩
 replace hinit := Lib.hid hinit
 replace hc := Lib.hid hc
 replace hcols := Lib.hid hcols
 replace hcb := Lib.hid hcb
 clear h hok hs hcv
 go_enter Tryd.func139, Tryd.ntmps139
 go_wp2
 go_step3
 go_wp2
 go_step3
 go_wp2
 go_loopg [6, 7, 14] (cols.length) (fun gk l d i wr => ∃ (q : Nat) (s : Sys), q ≤ cols.length ∧ cols.length - q ≤ gk ∧ i = .int .i64 q ∧ Hid (s = (cols.take q).foldl stepS ⟨rs, [], 1, t⟩) ∧ d = .int .i64 s.det ∧ Hid (SolveInv w wr base sb cb n m v l s))
 case atStart => exact ⟨0, _, Nat.zero_le _, Nat.le_refl _, rfl, Lib.hid rfl, rfl, hinit⟩
 case round =>
  obtain ⟨q, s, hq, hgk, rfl, hst, rfl, hI⟩ := hrel
  by_cases hlt : q < cols.length
  ·obtain ⟨k, hk⟩ : ∃ k, cols[q]? = some k := ⟨_, List.getElem?_eq_getElem hlt⟩
   have hkm := hcols.out k (List.mem_of_getElem? hk)
   have hkc : wr.cell? ⟨cb, q, none⟩ = some (.int .i64 k) := (World.cell?_of_block (w := w) hI.out.cols).trans (hc.out q k hk)
   have hsys : wr.cell? ⟨sb, 0, none⟩ = some v := by simp [World.cell?, hI.out.sys]
   obtain ⟨A, c, rfl⟩ := own_form hI.out.piv
   obtain ⟨vs', hO, hOc⟩ := hI.out.mem
   obtain ⟨G, C, rfl⟩ := own_form hO.outer
   rw [hI.out.ok.1] at *
   have hfew := hI.out.few
   generalize hL : s.piv.length = L at hfew hI ⊢
   replace hL := Lib.hid hL
   have hdet := hI.out.det
   replace hk := Lib.hid hk
   replace hO := Lib.hid hO
   replace hOc := Lib.hid hOc
   have q1 : (q : Int) < (cols.length : Int) := by omega
   have q0 : (0 : Int) ≤ (q : Int) := by omega
   go_wp2
   obtain ⟨wo, rfl⟩ : ∃ wo : World, wo = wr := ⟨_, rfl⟩
   obtain ⟨gO, rfl⟩ : ∃ gO : Nat, gO = gk := ⟨_, rfl⟩
   replace hI := Lib.hid hI
   clear hkc
   go_loopg [6, 7, 10] n (fun gj ll dd ii w2 => ll = .slice A L c ∧ dd = .int .i64 s.det ∧ ∃ i : Nat, L ≤ i ∧ i ≤ n ∧ n - i ≤ gj ∧ ii = .int .i64 i ∧ Hid (∀ j, L ≤ j → j < i → gM s.rows j k = 0) ∧ w2 = wo)
   case atStart => exact ⟨rfl, rfl, _, Nat.le_refl _, hfew, by omega, rfl, Lib.hid (fun j h1 h2 => by omega), rfl⟩
   case round =>
    obtain ⟨rfl, rfl, i, hLi, hin, hgj, rfl, hz, rfl⟩ := hrel
    by_cases hi : i < n
    ·obtain ⟨u, hu⟩ : ∃ u, vs'[i]? = some u := ⟨_, List.getElem?_eq_getElem (by rw [hO.out.len, hI.out.out.ok.1]; exact hi)⟩
     have hr : s.rows[i]? = some (s.rows.getD i []) := by rw [List.getD_eq_getElem?_getD, List.getElem?_eq_getElem (by rw [hI.out.out.ok.1]; exact hi)]; rfl
     obtain ⟨g', c', e, -, -, hcg, hfg⟩ := hO.out.at_ hr hu
     simp only [Value.slice.injEq] at e
     obtain ⟨rfl, -, -⟩ := e
     obtain ⟨g2, c2, rfl, -, -, hcc, -⟩ := hO.out.num hr hu (k := k) (by rw [hI.out.out.ok.row hi]; exact hkm)
     rw [hI.out.out.ok.row hi] at hu hcg
     change wr.cell? _ = some (.int .i64 (gM s.rows i k)) at hcc
     replace hu := Lib.hid hu
     replace hr := Lib.hid hr
     have i1 : (i : Int) < (n : Int) := by omega
     have i0 : (0 : Int) ≤ (i : Int) := by omega
     have k1 : (k : Int) < (m : Int) := by omega
     have k0 : (0 : Int) ≤ (k : Int) := by omega
     by_cases hx : gM s.rows i k = 0
     ·rw [hx] at hcc
      replace hx := Lib.hid hx
      go_wp2
      go_roundg (gk - 1)
      case measure => omega
      case rel => exact ⟨rfl, rfl, i + 1, by omega, by omega, by omega, by go_num, Lib.hid (fun j h1 h2 => by
       by_cases e : j = i
       ·subst e; exact hx.out
       ·exact hz.out j h1 (by omega)), rfl⟩
     ·have hx' : (gM s.rows i k == 0) = false := by rw [beq_eq_false_iff_ne]; exact hx
      have hfp : Hid (stepS s k = pivS s k i) := Lib.hid (by rw [stepS, hI.out.out.ok.1, hL.out, findP_some hLi (by omega) hz.out hx])
      replace hx := Lib.hid hx
      by_cases hiL : i = L
      ·subst hiL
       have hxb := hI.out.out.ok.num i k
       have hb1 : Below wr.heap.size wr (wr.alloc (.cells #[.int .i64 i, .int .i64 k] 159)) := (Below.refl _ _).alloc (Nat.le_refl _) _
       have p0 : (wr.alloc (.cells #[.int .i64 i, .int .i64 k] 159)).cell? ⟨wr.heap.size, 0, none⟩ = some (.int .i64 i) := by simp only [World.cell?, heap_alloc_new]; rfl
       have p1 : (wr.alloc (.cells #[.int .i64 i, .int .i64 k] 159)).cell? ⟨wr.heap.size, 1, none⟩ = some (.int .i64 k) := by simp only [World.cell?, heap_alloc_new]; rfl
       have s0 := (hb1.cell (p := ⟨sb, 0, none⟩) (World.block_lt_of_cell? wr _ hsys)).trans hsys
       have r0 := (hb1.cell (p := ⟨g', i, none⟩) (World.block_lt_of_cell? wr _ hcg)).trans hcg
       have x0 := (hb1.cell (p := ⟨g2, k, none⟩) (World.block_lt_of_cell? wr _ hcc)).trans hcc
       have hO1 := Lib.hid (hO.out.kept hb1)
       have hs1 := Lib.hid ((hb1.block sb (lt_of_block hI.out.out.sys)).trans hI.out.out.sys)
       have hpv := own_below hI.out.out.piv hb1
       rw [hL.out] at hpv
       replace hpv := Lib.hid hpv
       have hc1 := Lib.hid ((hb1.block cb (lt_of_block (hI.out.out.cols.trans hcb.out))).trans hI.out.out.cols)
       have hB1 := Lib.hid (hI.out.out.below.trans (hb1.mono (Nat.le_trans hbw hI.out.out.below.size)))
       have ⟨m1, m2⟩ := mul_bd hdet.1 hdet.2 hxb.1 hxb.2
       have e1 : IntKind.i64.wrap (s.det * gM s.rows i k) = s.det * gM s.rows i k := IntWalk.i64_in _ ⟨by omega, by omega⟩
       have e2 : (s.det * gM s.rows i k).tmod 65521 = s.det * gM s.rows i k % 65521 := Int.tmod_eq_emod_of_nonneg m1
       go_wp2
       generalize wr.alloc (.cells #[.int .i64 i, .int .i64 k] 159) = W at p0 p1 s0 r0 x0 hO1 hs1 hpv hc1 hB1 ⊢
       go_still_tail 14, (by kernel_rfl)
       change wpList _ _ _ _ _ W.drew
       clear e1 e2
       have hbx : Hid (∀ u ∈ vs', u.ownBlock ≠ some wr.heap.size) := Lib.hid (fun u hu e => by have := (hO.out.ge u hu _ e).2; omega)
       have hdo := Lib.hid (own_ne hO1.out.outer hpv.out (by decide))
       have hdr : Hid (∀ u ∈ vs', u.ownBlock = none ∨ u.ownBlock ≠ (Value.slice A i c).ownBlock) := Lib.hid (fun u hu => by
        obtain ⟨j, hj, rfl⟩ := List.getElem_of_mem hu
        have hr := hO1.out.rows j _ _ (List.getElem?_eq_getElem (by have := hO1.out.len; omega)) (List.getElem?_eq_getElem hj)
        exact own_ne hr hpv.out (by decide))
       have hsv := Lib.hid (sys_ne hO1.out hs1.out)
       go_wp2_with fail
       refine (clear_any s.rows n m i k sb base _ vs' s.turned W.drew (hO1.out.kept (Below.refl _ _).drew) hI.out.out.ok hn hm hi hkm hs1.out).mono ?_
       rintro e W2 ⟨rfl, hO2, hK2⟩
       have p0' := hK2.cell p0 hbx.out
       have p1' := hK2.cell p1 hbx.out
       replace hO2 := Lib.hid hO2
       replace hK2 := Lib.hid hK2
       have hpw := own_of_block hpv.out (fun g e => hK2.out.block g (hpv.out.lt g e).2 (fun u hu e2 => by
        rcases hdr.out u hu with h | h
        ·rw [h] at e2; cases e2
        ·exact h (e2.trans e.symm)))
       have hbs : base ≤ W2.heap.size := Nat.le_trans hbw (Nat.le_trans hB1.out.size hK2.out.size)
       go_wp2_with (at_builtin; (refine wpList_append_lies _ rfl _ _ 155 rfl base 159 ip _ 2 16 Tryd.underlying155 hip hp0 hp1 hp2 rfl (by omega) (.slice A i c) i (pivCells s.piv) rfl (hpw.alloc _) ⟨W2.heap.size, 0, none⟩ 1 1 [.int .i64 i, .int .i64 k] rfl rfl (World.news_of_block (cs := #[.int .i64 i, .int .i64 k]) (t := 159) (fr := (0, 0)) (heap_alloc_new W2 _)) (by simp [Value.oneCell']) (by omega) (by unfold maxLen; omega) (by omega) (by simp; omega) (W2.heap.size + 1) (by simp) ?_); intro gg cap w3 hown3 hgrow hat hlt3)
       have hpiv := hfp.out
       have hfin := solve_fin (w := w) (k := k) (i := i) hL.out hI.out.out.ok (Nat.le_refl _) hi (by rw [swap_self]; exact hO2.out) hOc.out hsv.out (by rw [if_pos rfl]; exact hs1.out) hpv.out hdo.out hdr.out hc1.out hcb.out hB1.out hbw (KeptBut.of_below (Below.refl _ _).drew |>.trans hK2.out) hgrow hown3
       rw [← hpiv] at hfin
       replace hfin := Lib.hid hfin
       have hdt : Hid ((stepS s k).det = s.det * gM s.rows i k % 65521) := Lib.hid (by rw [hpiv, pivS, hL.out, swap_self])
       clear hpiv hpw hown3 hgrow hat hlt3
       go_wp2
       go_roundg (gO - 1)
       case measure => omega
       case rel => exact ⟨q + 1, stepS s k, by omega, by omega, by go_num, Lib.hid (by rw [List.take_add_one, hk.out, List.foldl_append, ← hst.out]; rfl), by rw [hdt.out], hfin⟩
      ·have hLi' : L < i := by omega
       have hnei : ((i : Int) != (L : Int)) = true := by rw [bne_iff_ne]; omega
       obtain ⟨uL, huL⟩ : ∃ u, vs'[L]? = some u := ⟨_, List.getElem?_eq_getElem (by rw [hO.out.len, hI.out.out.ok.1]; omega)⟩
       have hrL : s.rows[L]? = some (s.rows.getD L []) := by rw [List.getD_eq_getElem?_getD, List.getElem?_eq_getElem (by rw [hI.out.out.ok.1]; omega)]; rfl
       obtain ⟨g4, c4, e, -, -, hcL, hfL⟩ := hO.out.at_ hrL huL
       simp only [Value.slice.injEq, Option.some.injEq, Addr.mk.injEq, and_true] at e
       obtain ⟨rfl, -, -⟩ := e
       obtain ⟨g3, c3, rfl, -, -, hc3, -⟩ := hO.out.num hrL huL (k := k) (by rw [hI.out.out.ok.row (by omega)]; exact hkm)
       rw [hI.out.out.ok.row (show L < n by omega)] at huL hcL
       replace huL := Lib.hid huL
       replace hrL := Lib.hid hrL
       have hsf : wr.frozen? ⟨sb, 1, none⟩ = false := by simp [World.frozen?, hI.out.out.sys]
       have hst1 : wr.cell? ⟨sb, 1, none⟩ = some (.bool s.turned) := by simp [World.cell?, hI.out.out.sys]
       have hb1 : Below wr.heap.size wr (wr.alloc (.cells #[.int .i64 L, .int .i64 k] 159)) := (Below.refl _ _).alloc (Nat.le_refl _) _
       have p0 : (wr.alloc (.cells #[.int .i64 L, .int .i64 k] 159)).cell? ⟨wr.heap.size, 0, none⟩ = some (.int .i64 L) := by simp only [World.cell?, heap_alloc_new]; rfl
       have p1 : (wr.alloc (.cells #[.int .i64 L, .int .i64 k] 159)).cell? ⟨wr.heap.size, 1, none⟩ = some (.int .i64 k) := by simp only [World.cell?, heap_alloc_new]; rfl
       have s0 := (hb1.cell (p := ⟨sb, 0, none⟩) (World.block_lt_of_cell? wr _ hsys)).trans hsys
       have s1 := (hb1.cell (p := ⟨sb, 1, none⟩) (World.block_lt_of_cell? wr _ hst1)).trans hst1
       have sf := (hb1.frozen (p := ⟨sb, 1, none⟩) (World.block_lt_of_cell? wr _ hst1)).trans hsf
       have r0 := (hb1.cell (p := ⟨g', i, none⟩) (World.block_lt_of_cell? wr _ hcg)).trans hcg
       have rf := (hb1.frozen (p := ⟨g', i, none⟩) (World.block_lt_of_cell? wr _ hcg)).trans hfg
       have t0 := (hb1.cell (p := ⟨g', L, none⟩) (World.block_lt_of_cell? wr _ hcL)).trans hcL
       have tf := (hb1.frozen (p := ⟨g', L, none⟩) (World.block_lt_of_cell? wr _ hcL)).trans hfL
       have hO1 := Lib.hid (hO.out.kept hb1)
       have hs1 := Lib.hid ((hb1.block sb (lt_of_block hI.out.out.sys)).trans hI.out.out.sys)
       have hpv := own_below hI.out.out.piv hb1
       rw [hL.out] at hpv
       replace hpv := Lib.hid hpv
       have hc1 := Lib.hid ((hb1.block cb (lt_of_block (hI.out.out.cols.trans hcb.out))).trans hI.out.out.cols)
       have hB1 := Lib.hid (hI.out.out.below.trans (hb1.mono (Nat.le_trans hbw hI.out.out.below.size)))
       have L1 : (L : Int) < (n : Int) := by omega
       have L0 : (0 : Int) ≤ (L : Int) := by omega
       have sbg : sb ≠ g' := fun e => by
        have h1 := hI.out.out.sys
        rcases hO.out.outer.2 with ⟨e2, _⟩ | ⟨g5, cap, cur, e2, _, hh, _⟩
        ·cases e2
        ·simp only [Value.slice.injEq, Option.some.injEq, Addr.mk.injEq, and_true] at e2
         obtain ⟨rfl, -, -⟩ := e2
         rw [← e, h1] at hh
         injection hh with hh
         injection hh with _ ht
         exact absurd ht (by decide)
       have hgb : base ≤ g' := by
        rcases hO.out.outer.2 with ⟨e2, _⟩ | ⟨g5, cap, cur, e2, hb, hh, _⟩
        ·cases e2
        ·simp only [Value.slice.injEq, Option.some.injEq, Addr.mk.injEq, and_true] at e2
         obtain ⟨rfl, -, -⟩ := e2
         exact hb
       have hneG : Hid ((Value.slice A L c).ownBlock ≠ some g') := Lib.hid (fun e2 => by
        have h9 := hI.out.out.piv
        rw [hL.out] at h9
        rcases own_ne h9 hO.out.outer (by decide) with h | h
        ·rw [h] at e2; cases e2
        ·exact h e2)
       have hcbg : Hid (cb ≠ g') := Lib.hid (fun e => by
        have h1 := hI.out.out.cols.trans hcb.out
        exact own_type hO.out.outer h1 (by decide) (by rw [e]; rfl))
       have hcbs : Hid (cb ≠ sb) := Lib.hid (fun e => by
        have h1 := hI.out.out.cols.trans hcb.out
        have h2 := hI.out.out.sys
        rw [e, h2] at h1
        injection h1 with h1
        injection h1 with _ ht
        exact absurd ht (by decide))
       have bxg : wr.heap.size ≠ g' := fun e => by have := World.block_lt_of_cell? wr _ hcg; simp at this; omega
       have bxs : wr.heap.size ≠ sb := fun e => by have := World.block_lt_of_cell? wr _ hsys; simp at this; omega
       go_wp2
       generalize wr.alloc (.cells #[.int .i64 L, .int .i64 k] 159) = W at p0 p1 s0 s1 sf r0 rf t0 tf hO1 hs1 hpv hc1 hB1 ⊢
       clear hcg hfg hcL hfL hsys hst1 hsf hcc
       refine D_begin (fun w' => w'.cell? ⟨sb, 0, none⟩ = some (.slice (some ⟨g', 0, none⟩) n C) ∧ w'.cell? ⟨wr.heap.size, 0, none⟩ = some (.int .i64 L)) (fun w' => w'.cell? ⟨g', i, none⟩ = some (.slice (some ⟨g2, 0, none⟩) m c2) ∧ w'.cell? ⟨g', L, none⟩ = some (.slice (some ⟨g3, 0, none⟩) m c3)) 27 (by kernel_rfl) ?_
       change wpAnyD _ _ _ _ _ _ _ _ _ _ W.drew
       have HS : W.drew.cell? ⟨sb, 0, none⟩ = some (.slice (some ⟨g', 0, none⟩) n C) ∧ W.drew.cell? ⟨wr.heap.size, 0, none⟩ = some (.int .i64 L) := ⟨s0, p0⟩
       have HT : W.drew.cell? ⟨g', i, none⟩ = some (.slice (some ⟨g2, 0, none⟩) m c2) ∧ W.drew.cell? ⟨g', L, none⟩ = some (.slice (some ⟨g3, 0, none⟩) m c3) := ⟨r0, t0⟩
       simp only [List.size_toArray, List.length_cons, List.length_nil, Nat.reduceAdd, Array.replicate_succ, Array.replicate_zero, List.push_toArray, List.append_toArray, List.nil_append, List.cons_append]
       refine D_take (i := 0) (v := ?_) rfl (by kernel_rfl) (by kernel_rfl) (by kernel_rfl) (by kernel_rfl) (fun _ _ _ h => h) (Or.inl ⟨by rfl, ?_⟩) HS (fun _ => HT) ?_
       rotate_left; · intro w1 hw1; obtain ⟨hw1, hw2⟩ := hw1; go_simp; try with_reducible rfl
       try simp only [Act.put, List.setIfInBounds_toArray, List.set_cons_zero, List.set_cons_succ]
       refine D_take (i := 1) (v := ?_) rfl (by kernel_rfl) (by kernel_rfl) (by kernel_rfl) (by kernel_rfl) (fun _ _ _ h => h) (Or.inl ⟨by rfl, ?_⟩) HS (fun _ => HT) ?_
       rotate_left; · intro w1 hw1; obtain ⟨hw1, hw2⟩ := hw1; go_simp; try with_reducible rfl
       try simp only [Act.put, List.setIfInBounds_toArray, List.set_cons_zero, List.set_cons_succ]
       refine D_take (i := 2) (v := ?_) rfl (by kernel_rfl) (by kernel_rfl) (by kernel_rfl) (by kernel_rfl) (fun _ _ _ h => h) (Or.inl ⟨by rfl, ?_⟩) HS (fun _ => HT) ?_
       rotate_left; · intro w1 hw1; obtain ⟨hw1, hw2⟩ := hw1; go_simp; try with_reducible rfl
       try simp only [Act.put, List.setIfInBounds_toArray, List.set_cons_zero, List.set_cons_succ]
       refine D_take (i := 3) (v := ?_) rfl (by kernel_rfl) (by kernel_rfl) (by kernel_rfl) (by kernel_rfl) (fun _ _ _ h => h) (Or.inl ⟨by rfl, ?_⟩) HS (fun _ => HT) ?_
       rotate_left; · intro w1 hw1; obtain ⟨hw1, hw2⟩ := hw1; go_simp; try with_reducible rfl
       try simp only [Act.put, List.setIfInBounds_toArray, List.set_cons_zero, List.set_cons_succ]
       refine D_take (i := 4) (v := ?_) rfl (by kernel_rfl) (by kernel_rfl) (by kernel_rfl) (by kernel_rfl) (fun _ _ _ h => h) (Or.inl ⟨by rfl, ?_⟩) HS (fun _ => HT) ?_
       rotate_left; · intro w1 hw1; obtain ⟨hw1, hw2⟩ := hw1; go_simp; try with_reducible rfl
       try simp only [Act.put, List.setIfInBounds_toArray, List.set_cons_zero, List.set_cons_succ]
       refine D_take (i := 5) (v := ?_) rfl (by kernel_rfl) (by kernel_rfl) (by kernel_rfl) (by kernel_rfl) (fun _ _ _ h => h) (Or.inl ⟨by rfl, ?_⟩) HS (fun _ => HT) ?_
       rotate_left; · intro w1 hw1; obtain ⟨hw1, hw2⟩ := hw1; go_simp; try with_reducible rfl
       try simp only [Act.put, List.setIfInBounds_toArray, List.set_cons_zero, List.set_cons_succ]
       refine D_take (i := 6) (v := ?_) rfl (by kernel_rfl) (by kernel_rfl) (by kernel_rfl) (by kernel_rfl) (fun _ _ _ h => h) (Or.inl ⟨by rfl, ?_⟩) HS (fun _ => HT) ?_
       rotate_left; · intro w1 hw1; obtain ⟨hw1, hw2⟩ := hw1; go_simp; try with_reducible rfl
       try simp only [Act.put, List.setIfInBounds_toArray, List.set_cons_zero, List.set_cons_succ]
       refine D_take (i := 7) (v := ?_) rfl (by kernel_rfl) (by kernel_rfl) (by kernel_rfl) (by kernel_rfl) (fun _ _ _ h => h) (Or.inl ⟨by rfl, ?_⟩) HS (fun _ => HT) ?_
       rotate_left; · intro w1 hw1; obtain ⟨hw1, hw2⟩ := hw1; go_simp; try with_reducible rfl
       try simp only [Act.put, List.setIfInBounds_toArray, List.set_cons_zero, List.set_cons_succ]
       refine D_take (i := 8) (v := ?_) rfl (by kernel_rfl) (by kernel_rfl) (by kernel_rfl) (by kernel_rfl) (fun _ _ _ h => h) (Or.inl ⟨by rfl, ?_⟩) HS (fun _ => HT) ?_
       rotate_left; · intro w1 hw1; obtain ⟨hw1, hw2⟩ := hw1; go_simp; try with_reducible rfl
       try simp only [Act.put, List.setIfInBounds_toArray, List.set_cons_zero, List.set_cons_succ]
       refine D_take (i := 9) (v := ?_) rfl (by kernel_rfl) (by kernel_rfl) (by kernel_rfl) (by kernel_rfl) (fun _ _ _ h => h) (Or.inl ⟨by rfl, ?_⟩) HS (fun _ => HT) ?_
       rotate_left; · intro w1 hw1; obtain ⟨hw1, hw2⟩ := hw1; go_simp; try with_reducible rfl
       try simp only [Act.put, List.setIfInBounds_toArray, List.set_cons_zero, List.set_cons_succ]
       refine D_take (i := 10) (v := ?_) rfl (by kernel_rfl) (by kernel_rfl) (by kernel_rfl) (by kernel_rfl) (fun _ _ _ h => h) (Or.inl ⟨by rfl, ?_⟩) HS (fun _ => HT) ?_
       rotate_left; · intro w1 hw1; obtain ⟨hw1, hw2⟩ := hw1; go_simp; try with_reducible rfl
       try simp only [Act.put, List.setIfInBounds_toArray, List.set_cons_zero, List.set_cons_succ]
       refine D_take (i := 11) (v := ?_) rfl (by kernel_rfl) (by kernel_rfl) (by kernel_rfl) (by kernel_rfl) (fun _ _ _ h => h) (Or.inl ⟨by rfl, ?_⟩) HS (fun _ => HT) ?_
       rotate_left; · intro w1 hw1; obtain ⟨hw1, hw2⟩ := hw1; go_simp; try with_reducible rfl
       try simp only [Act.put, List.setIfInBounds_toArray, List.set_cons_zero, List.set_cons_succ]
       refine D_take (i := 12) (v := ?_) rfl (by kernel_rfl) (by kernel_rfl) (by kernel_rfl) (by kernel_rfl) (fun _ _ _ h => h) (Or.inl ⟨by rfl, ?_⟩) HS (fun _ => HT) ?_
       rotate_left; · intro w1 hw1; obtain ⟨hw1, hw2⟩ := hw1; go_simp; try with_reducible rfl
       try simp only [Act.put, List.setIfInBounds_toArray, List.set_cons_zero, List.set_cons_succ]
       refine D_take (i := 13) (v := ?_) rfl (by kernel_rfl) (by kernel_rfl) (by kernel_rfl) (by kernel_rfl) (fun _ _ _ h => h) (Or.inl ⟨by rfl, ?_⟩) HS (fun _ => HT) ?_
       rotate_left; · intro w1 hw1; obtain ⟨hw1, hw2⟩ := hw1; go_simp; try with_reducible rfl
       try simp only [Act.put, List.setIfInBounds_toArray, List.set_cons_zero, List.set_cons_succ]
       refine D_take (i := 14) (v := ?_) rfl (by kernel_rfl) (by kernel_rfl) (by kernel_rfl) (by kernel_rfl) (fun _ _ _ h => h) (Or.inl ⟨by rfl, ?_⟩) HS (fun _ => HT) ?_
       rotate_left; · intro w1 hw1; obtain ⟨hw1, hw2⟩ := hw1; go_simp; try with_reducible rfl
       try simp only [Act.put, List.setIfInBounds_toArray, List.set_cons_zero, List.set_cons_succ]
       refine D_take (i := 15) (v := ?_) rfl (by kernel_rfl) (by kernel_rfl) (by kernel_rfl) (by kernel_rfl) (fun _ _ _ h => h) (Or.inl ⟨by rfl, ?_⟩) HS (fun _ => HT) ?_
       rotate_left; · intro w1 hw1; obtain ⟨hw1, hw2⟩ := hw1; go_simp; try with_reducible rfl
       try simp only [Act.put, List.setIfInBounds_toArray, List.set_cons_zero, List.set_cons_succ]
       refine D_take (i := 16) (v := ?_) rfl (by kernel_rfl) (by kernel_rfl) (by kernel_rfl) (by kernel_rfl) (fun _ _ _ h => h) (Or.inl ⟨by rfl, ?_⟩) HS (fun _ => HT) ?_
       rotate_left; · intro w1 hw1; obtain ⟨hw1, hw2⟩ := hw1; go_simp; try with_reducible rfl
       try simp only [Act.put, List.setIfInBounds_toArray, List.set_cons_zero, List.set_cons_succ]
       refine D_take (i := 17) (v := ?_) rfl (by kernel_rfl) (by kernel_rfl) (by kernel_rfl) (by kernel_rfl) (fun _ _ _ h => h) (Or.inl ⟨by rfl, ?_⟩) HS (fun _ => HT) ?_
       rotate_left; · intro w1 hw1; obtain ⟨hw1, hw2⟩ := hw1; go_simp; try with_reducible rfl
       try simp only [Act.put, List.setIfInBounds_toArray, List.set_cons_zero, List.set_cons_succ]
       refine D_take (i := 19) (v := ?_) rfl (by kernel_rfl) (by kernel_rfl) (by kernel_rfl) (by kernel_rfl) (fun _ _ _ h => h) (Or.inl ⟨by rfl, ?_⟩) HS (fun _ => HT) ?_
       rotate_left; · intro w1 hw1; obtain ⟨hw1, hw2⟩ := hw1; go_simp; try with_reducible rfl
       try simp only [Act.put, List.setIfInBounds_toArray, List.set_cons_zero, List.set_cons_succ]
       refine D_take (i := 20) (v := ?_) rfl (by kernel_rfl) (by kernel_rfl) (by kernel_rfl) (by kernel_rfl) (fun _ _ _ h => h) (Or.inl ⟨by rfl, ?_⟩) HS (fun _ => HT) ?_
       rotate_left; · intro w1 hw1; obtain ⟨hw1, hw2⟩ := hw1; go_simp; try with_reducible rfl
       try simp only [Act.put, List.setIfInBounds_toArray, List.set_cons_zero, List.set_cons_succ]
       refine D_take (i := 21) (v := ?_) rfl (by kernel_rfl) (by kernel_rfl) (by kernel_rfl) (by kernel_rfl) (fun _ _ _ h => h) (Or.inl ⟨by rfl, ?_⟩) HS (fun _ => HT) ?_
       rotate_left; · intro w1 hw1; obtain ⟨hw1, hw2⟩ := hw1; go_simp; try with_reducible rfl
       try simp only [Act.put, List.setIfInBounds_toArray, List.set_cons_zero, List.set_cons_succ]
       refine D_take (i := 22) (v := ?_) rfl (by kernel_rfl) (by kernel_rfl) (by kernel_rfl) (by kernel_rfl) (fun _ _ _ h => h) (Or.inl ⟨by rfl, ?_⟩) HS (fun _ => HT) ?_
       rotate_left; · intro w1 hw1; obtain ⟨hw1, hw2⟩ := hw1; go_simp; try with_reducible rfl
       try simp only [Act.put, List.setIfInBounds_toArray, List.set_cons_zero, List.set_cons_succ]
       refine D_take (i := 23) (v := ?_) rfl (by kernel_rfl) (by kernel_rfl) (by kernel_rfl) (by kernel_rfl) (fun _ _ _ h => h) (Or.inl ⟨by rfl, ?_⟩) HS (fun _ => HT) ?_
       rotate_left; · intro w1 hw1; obtain ⟨hw1, hw2⟩ := hw1; go_simp; try with_reducible rfl
       try simp only [Act.put, List.setIfInBounds_toArray, List.set_cons_zero, List.set_cons_succ]
       refine D_take (i := 24) (v := ?_) rfl (by kernel_rfl) (by kernel_rfl) (by kernel_rfl) (by kernel_rfl) (fun _ _ _ h => h) (Or.inl ⟨by rfl, ?_⟩) HS (fun _ => HT) ?_
       rotate_left; · intro w1 hw1; obtain ⟨hw1, hw2⟩ := hw1; go_simp; try with_reducible rfl
       try simp only [Act.put, List.setIfInBounds_toArray, List.set_cons_zero, List.set_cons_succ]
       refine D_load (i := 18) (v := ?_) rfl (by kernel_rfl) (by kernel_rfl) (by kernel_rfl) (by kernel_rfl) (by kernel_rfl) (by kernel_rfl) (fun _ _ _ h => h) (Or.inl ⟨by rfl, ?_⟩) HS HT ?_
       rotate_left; · intro w1 hw1; obtain ⟨⟨hw1, hw2⟩, hw3, hw4⟩ := hw1; go_simp; try with_reducible rfl
       try simp only [Act.put, List.setIfInBounds_toArray, List.set_cons_zero, List.set_cons_succ]
       refine D_load (i := 25) (v := ?_) rfl (by kernel_rfl) (by kernel_rfl) (by kernel_rfl) (by kernel_rfl) (by kernel_rfl) (by kernel_rfl) (fun _ _ _ h => h) (Or.inl ⟨by rfl, ?_⟩) HS HT ?_
       rotate_left; · intro w1 hw1; obtain ⟨⟨hw1, hw2⟩, hw3, hw4⟩ := hw1; go_simp; try with_reducible rfl
       try simp only [Act.put, List.setIfInBounds_toArray, List.set_cons_zero, List.set_cons_succ]
       refine D_take (i := 26) (v := ?_) rfl (by kernel_rfl) (by kernel_rfl) (by kernel_rfl) (by kernel_rfl) (fun _ _ _ h => h) (Or.inl ⟨by rfl, ?_⟩) HS (fun _ => HT) ?_
       rotate_left; · intro w1 hw1; obtain ⟨hw1, hw2⟩ := hw1; go_simp; try with_reducible rfl
       try simp only [Act.put, List.setIfInBounds_toArray, List.set_cons_zero, List.set_cons_succ]
       refine D_one (i := 27) (by kernel_rfl) rfl ?_
       intro K hK
       rw [if_pos (by rfl)]
       go_simp
       have HS2 : (W.setCell ⟨g', i, none⟩ (.slice (some ⟨g3, 0, none⟩) m c3)).drew.cell? ⟨sb, 0, none⟩ = some (.slice (some ⟨g', 0, none⟩) n C) ∧ (W.setCell ⟨g', i, none⟩ (.slice (some ⟨g3, 0, none⟩) m c3)).drew.cell? ⟨wr.heap.size, 0, none⟩ = some (.int .i64 L) :=
        ⟨(World.cell?_of_block (w := W) (a := ⟨sb, 0, none⟩) (Below.heap_setCell _ _ _ _ sbg)).trans s0, (World.cell?_of_block (w := W) (a := ⟨wr.heap.size, 0, none⟩) (Below.heap_setCell _ _ _ _ bxg)).trans p0⟩
       refine hK _ _ HS2 (fun h => absurd rfl h) ?_
       try simp only [List.setIfInBounds_toArray, List.set_cons_zero, List.set_cons_succ]
       clear hK K
       refine D_take (i := 28) (v := ?_) rfl (by kernel_rfl) (by kernel_rfl) (by kernel_rfl) (by kernel_rfl) (fun _ _ _ h => h) (Or.inl ⟨by rfl, ?_⟩) HS2 (fun h => absurd h (by decide)) ?_
       rotate_left; · intro w1 hw1; obtain ⟨hw1, hw2⟩ := hw1; go_simp; try with_reducible rfl
       try simp only [Act.put, List.setIfInBounds_toArray, List.set_cons_zero, List.set_cons_succ]
       refine D_one (i := 29) (by kernel_rfl) rfl ?_
       intro K hK
       rw [if_pos (by rfl)]
       go_simp
       refine hK _ _ ⟨(World.cell?_of_block (w := W) (a := ⟨sb, 0, none⟩) ((Below.heap_setCell _ _ _ _ sbg).trans (Below.heap_setCell _ _ _ _ sbg))).trans s0, (World.cell?_of_block (w := W) (a := ⟨wr.heap.size, 0, none⟩) ((Below.heap_setCell _ _ _ _ bxg).trans (Below.heap_setCell _ _ _ _ bxg))).trans p0⟩ (fun _ h => absurd h (by decide)) ?_
       clear hK K
       refine D_done (by kernel_rfl) ?_ _
       clear HS HT HS2
       go_wp2_with fail
       have hboth := swap_fin (t := s.turned) hO1.out rfl hr.out hrL.out hu.out huL.out hiL hs1.out hsb sbg hgb hB1.out
       have hpX := own_of_block hpv.out (fun b e => hboth.2.2.2 b (fun e2 => hneG.out (by rw [e, e2])) (fun e2 => own_type hpv.out hs1.out (by decide) (by rw [e, e2])))
       have hcX : _ = w.heap[cb]? := (hboth.2.2.2 cb hcbg.out hcbs.out).trans hc1.out
       have hok2 : okM (swapM s.rows i L) n m := okM_swap hI.out.out.ok hi (by omega)
       have hgm : gM (swapM s.rows i L) L k = gM s.rows i k := by unfold gM; rw [swap_row (by rw [hI.out.out.ok.1]; omega)]
       have hOX := Lib.hid hboth.1
       have hsX := Lib.hid hboth.2.1
       have hBX := Lib.hid hboth.2.2.1
       have p0X := ((World.cell?_of_block (a := ⟨wr.heap.size, 0, none⟩) (hboth.2.2.2 wr.heap.size bxg bxs))).trans p0
       have p1X := ((World.cell?_of_block (a := ⟨wr.heap.size, 1, none⟩) (hboth.2.2.2 wr.heap.size bxg bxs))).trans p1
       replace hpX := Lib.hid hpX
       replace hcX := Lib.hid hcX
       have hvL : ((vs'.set i (Value.slice (some ⟨g3, 0, none⟩) m c3)).set L (Value.slice (some ⟨g2, 0, none⟩) m c2))[L]? = some (Value.slice (some ⟨g2, 0, none⟩) m c2) := List.getElem?_set_self (by have := hO.out.len; rw [hI.out.out.ok.1] at this; simp; omega)
       have hrL2 : (swapM s.rows i L)[L]? = some (s.rows.getD i []) := swap_get (by rw [hI.out.out.ok.1]; omega)
       obtain ⟨g5, c5, e, -, -, r0X, -⟩ := hOX.out.at_ hrL2 hvL
       simp only [Value.slice.injEq, Option.some.injEq, Addr.mk.injEq, and_true] at e
       obtain ⟨rfl, -, -⟩ := e
       obtain ⟨g6, c6, e, -, -, x0X, -⟩ := hOX.out.num hrL2 hvL (k := k) (by rw [hI.out.out.ok.row hi]; exact hkm)
       simp only [Value.slice.injEq, Option.some.injEq, Addr.mk.injEq, and_true] at e
       obtain ⟨rfl, -, -⟩ := e
       change World.cell? _ _ = some (.int .i64 (gM s.rows i k)) at x0X
       have s0X : (((W.setCell ⟨g', i, none⟩ (.slice (some ⟨g3, 0, none⟩) m c3)).setCell ⟨g', L, none⟩ (.slice (some ⟨g2, 0, none⟩) m c2)).setCell ⟨sb, 1, none⟩ (.bool !s.turned)).drew.cell? ⟨sb, 0, none⟩ = some (.slice (some ⟨g', 0, none⟩) n C) := by simp only [World.cell?, hsX.out]; rfl
       have hcbX : Hid (∀ y ∈ ((vs'.set i (Value.slice (some ⟨g3, 0, none⟩) m c3)).set L (Value.slice (some ⟨g2, 0, none⟩) m c2)), y.ownBlock ≠ some cb) := Lib.hid (fun y hy => by
        rcases List.mem_or_eq_of_mem_set hy with hy | rfl
        ·rcases List.mem_or_eq_of_mem_set hy with hy | rfl
         ·exact hOc.out y hy
         ·exact hOc.out _ (List.mem_of_getElem? huL.out)
        ·exact hOc.out _ (List.mem_of_getElem? hu.out))
       have hszX : Hid (wr.heap.size < (((W.setCell ⟨g', i, none⟩ (.slice (some ⟨g3, 0, none⟩) m c3)).setCell ⟨g', L, none⟩ (.slice (some ⟨g2, 0, none⟩) m c2)).setCell ⟨sb, 1, none⟩ (.bool !s.turned)).drew.heap.size) := Lib.hid (World.block_lt_of_cell? _ _ p0X)
       have hxn : Hid (∀ y ∈ ((vs'.set i (Value.slice (some ⟨g3, 0, none⟩) m c3)).set L (Value.slice (some ⟨g2, 0, none⟩) m c2)), y.ownBlock ≠ some wr.heap.size) := Lib.hid (fun y hy e => by
        have : ∀ z ∈ vs', z.ownBlock ≠ some wr.heap.size := fun z hz e => by have := (hO.out.ge z hz _ e).2; omega
        rcases List.mem_or_eq_of_mem_set hy with hy | rfl
        ·rcases List.mem_or_eq_of_mem_set hy with hy | rfl
         ·exact this y hy e
         ·exact this _ (List.mem_of_getElem? huL.out) e
        ·exact this _ (List.mem_of_getElem? hu.out) e)
       clear p0 p1 s0 s1 sf r0 rf t0 tf hO1 hs1 hpv hc1 hB1 hboth hvL hrL2
       replace hok2 := Lib.hid hok2
       replace hgm := Lib.hid hgm
       have hxb := hI.out.out.ok.num i k
       have ⟨m1, m2⟩ := mul_bd hdet.1 hdet.2 hxb.1 hxb.2
       have e1 : IntKind.i64.wrap (s.det * gM s.rows i k) = s.det * gM s.rows i k := IntWalk.i64_in _ ⟨by omega, by omega⟩
       have e2 : (s.det * gM s.rows i k).tmod 65521 = s.det * gM s.rows i k % 65521 := Int.tmod_eq_emod_of_nonneg m1
       generalize ((vs'.set i (Value.slice (some ⟨g3, 0, none⟩) m c3)).set L (Value.slice (some ⟨g2, 0, none⟩) m c2)) = vX at hOX hcbX hxn
       generalize (((W.setCell ⟨g', i, none⟩ (.slice (some ⟨g3, 0, none⟩) m c3)).setCell ⟨g', L, none⟩ (.slice (some ⟨g2, 0, none⟩) m c2)).setCell ⟨sb, 1, none⟩ (.bool !s.turned)).drew = X at p0X p1X s0X r0X x0X hOX hsX hpX hcX hBX hszX ⊢
       go_still_tail 14, (by kernel_rfl)
       change wpList _ _ _ _ _ X.drew
       clear e1 e2
       have hdo := Lib.hid (own_ne hOX.out.outer hpX.out (by decide))
       have hdr : Hid (∀ u ∈ vX, u.ownBlock = none ∨ u.ownBlock ≠ (Value.slice A L c).ownBlock) := Lib.hid (fun u hu => by
        obtain ⟨j, hj, rfl⟩ := List.getElem_of_mem hu
        have hr := hOX.out.rows j _ _ (List.getElem?_eq_getElem (by have := hOX.out.len; omega)) (List.getElem?_eq_getElem hj)
        exact own_ne hr hpX.out (by decide))
       have hsv := Lib.hid (sys_ne hOX.out hsX.out)
       go_wp2_with fail
       refine (clear_any (swapM s.rows i L) n m L k sb base _ vX (!s.turned) X.drew (hOX.out.kept (Below.refl _ _).drew) hok2.out hn hm (by omega) hkm hsX.out).mono ?_
       rintro e W2 ⟨rfl, hO2, hK2⟩
       have p0' := hK2.cell p0X hxn.out
       have p1' := hK2.cell p1X hxn.out
       replace hO2 := Lib.hid hO2
       replace hK2 := Lib.hid hK2
       have hpw := own_of_block hpX.out (fun g e => hK2.out.block g (hpX.out.lt g e).2 (fun u hu e2 => by
        rcases hdr.out u hu with h | h
        ·rw [h] at e2; cases e2
        ·exact h (e2.trans e.symm)))
       have hbs : base ≤ W2.heap.size := Nat.le_trans hbw (Nat.le_trans hBX.out.size hK2.out.size)
       go_wp2_with (at_builtin; (refine wpList_append_lies _ rfl _ _ 155 rfl base 159 ip _ 2 16 Tryd.underlying155 hip hp0 hp1 hp2 rfl (by omega) (.slice A L c) L (pivCells s.piv) rfl (hpw.alloc _) ⟨W2.heap.size, 0, none⟩ 1 1 [.int .i64 L, .int .i64 k] rfl rfl (World.news_of_block (cs := #[.int .i64 L, .int .i64 k]) (t := 159) (fr := (0, 0)) (heap_alloc_new W2 _)) (by simp [Value.oneCell']) (by omega) (by unfold maxLen; omega) (by omega) (by simp; omega) (W2.heap.size + 1) (by simp) ?_); intro gg cap w3 hown3 hgrow hat hlt3)
       have hpiv := hfp.out
       have hfin := solve_fin (w := w) (k := k) (i := i) hL.out hI.out.out.ok hLi hi hO2.out hcbX.out hsv.out (by rw [if_neg hiL]; exact hsX.out) hpX.out hdo.out hdr.out hcX.out hcb.out hBX.out hbw (KeptBut.of_below (Below.refl _ _).drew |>.trans hK2.out) hgrow hown3
       rw [← hpiv] at hfin
       replace hfin := Lib.hid hfin
       have hdt : Hid ((stepS s k).det = s.det * gM s.rows i k % 65521) := Lib.hid (by rw [hpiv, pivS, hL.out, hgm.out])
       clear hpiv hpw hown3 hgrow hat hlt3
       go_wp2
       go_roundg (gO - 1)
       case measure => omega
       case rel => exact ⟨q + 1, stepS s k, by omega, by omega, by go_num, Lib.hid (by rw [List.take_add_one, hk.out, List.foldl_append, ← hst.out]; rfl), by rw [hdt.out], hfin⟩
    ·obtain rfl : n = i := by omega
     have hfp : Hid (stepS s k = s) := Lib.hid (by rw [stepS, hI.out.out.ok.1, hL.out, findP_none (fun j h1 h2 => hz.out j h1 (by omega))])
     go_wp2
     go_roundg (gO - 1)
     case measure => omega
     case rel => exact ⟨q + 1, s, by omega, by omega, by go_num, Lib.hid (by rw [List.take_add_one, hk.out, List.foldl_append, ← hst.out]; exact hfp.out.symm), rfl, hI.out⟩
  ·obtain rfl : q = cols.length := by omega
   have hs2 : Hid (solveS rs cols t = s) := Lib.hid (by rw [hst.out, List.take_length]; rfl)
   go_wp2
   rw [Exit.noGoto_ret]
   go_ret2
   rw [hs2.out]
   exact ⟨_, rfl, hI.out⟩
end Go.Proofs.YtlpldfocljnpnaaDoor
namespace Go.Proofs.YtlpldfocljnpnaaDoor
open Go.RowKit
theorem OwnI_nil (w : World) (base : Nat) : OwnI w base (.slice none 0 0) [] := World.ownsRow_nil _ _ _ _
theorem Clone_any (xs : List Int) (v : Value) (w : World) (h : RdI w v xs) (hn : xs.length ≤ 1000000) :
  Calls Tryd.prog 89 #[v] w fun e w' => (∃ v', e = .returned v' ∧ OwnI w' w.heap.size v' xs) ∧ Below w.heap.size w w' := by
 obtain ⟨i0, hi, hz0, hz1, hz2⟩ := info_parts infoI
 have h' := h
 obtain ⟨A, c, rfl, h1, h2, h3⟩ := h'
 rw [ints_len] at *
 cases A with
 | none =>
  have hx : xs = [] := by
   rcases Nat.eq_zero_or_pos xs.length with e | e
   ·exact List.eq_nil_of_length_eq_zero e
   ·obtain ⟨b, off, e2, _⟩ := h3 e; cases e2
  subst hx
  clear h h3
  have heq := fun w => Lib.run_eql_slice_nil (P := Tryd.prog) w 22 3 none 0 c 0 0 Tryd.underlying22
  go_enter Tryd.func89, Tryd.ntmps89
  go_wp2
  go_ret
  exact ⟨⟨_, rfl, OwnI_nil _ _⟩, Below.refl _ _⟩
 | some ad =>
  have heq := fun w => Lib.run_eql_slice_nil (P := Tryd.prog) w 22 3 (some ad) xs.length c 0 0 Tryd.underlying22
  have hnews : Hid (∀ j u, (ints xs)[j]? = some u → (w.alloc (.cells #[] 3)).cell? (ad.add j) = some u) := Lib.hid (fun j u hj => by
   have hj' := (List.getElem?_eq_some_iff.1 hj).1
   rw [ints_len] at hj'
   obtain ⟨b, off, e, h4⟩ := h3 (by omega)
   cases e
   have hc := h4 j u hj
   have : (⟨b, off, none⟩ : Addr).add j = ⟨b, off + j, none⟩ := by unfold Addr.add; split <;> simp_all
   rw [this]
   exact (((Below.refl w.heap.size w).alloc (Nat.le_refl _) (.cells #[] 3)).cell (p := ⟨b, off + j, none⟩) (World.block_lt_of_cell? w _ hc)).trans hc)
  have hown : (w.alloc (.cells #[] 3)).ownsRow w.heap.size 3 1 (.slice (some ⟨w.heap.size, 0, none⟩) 0 0) 0 [] := World.ownsRow_made w #[] 0 (Nat.le_refl _) (by unfold maxLen; omega) rfl
  replace hown := Lib.hid hown
  have hone : Hid (∀ u ∈ ints xs, u.oneCell' = true) := Lib.hid (fun u hu => by obtain ⟨x, _, rfl⟩ := List.mem_map.1 hu; rfl)
  have hlen : Hid ((ints xs).length = xs.length * 1) := Lib.hid (by rw [ints_len]; omega)
  clear h h3
  go_enter Tryd.func89, Tryd.ntmps89
  go_wp2_with (at_builtin; (refine wpList_append_own_at _ rfl _ _ 22 rfl w.heap.size 3 i0 _ 1 8 Tryd.underlying22 hi hz0 hz1 hz2 rfl (by omega) (.slice (some ⟨w.heap.size, 0, none⟩) 0 0) 0 [] rfl hown.out ad xs.length c (ints xs) rfl hlen.out hnews.out hone.out (by unfold maxLen; omega) (by omega) (by simp) ?_); intro v' w1 hown1 hgrow _ _)
  simp only [Nat.zero_add, List.nil_append] at hown1
  replace hown1 := Lib.hid hown1
  replace hgrow := Lib.hid hgrow
  go_wp2
  go_ret
  exact ⟨⟨_, rfl, hown1.out⟩, ((Below.refl _ _).alloc (Nat.le_refl _) _).grown hgrow.out (by simp) (fun k hk => by simp [Value.ownBlock] at hk; omega)⟩
def cpP (rs : List (List Int)) (i : Nat) : List (List Int) := (List.range rs.length).map fun j => if j < i then rs.getD j [] else []
theorem cpP_zero (rs : List (List Int)) : cpP rs 0 = List.replicate rs.length [] := by
 apply List.ext_getElem (by simp [cpP])
 intro j h1 h2
 simp [cpP]
theorem cpP_end (rs : List (List Int)) : cpP rs rs.length = rs := by
 apply List.ext_getElem (by simp [cpP])
 intro j h1 h2
 simp [cpP, List.getD_eq_getElem?_getD, h2]
theorem cpP_get (rs : List (List Int)) {i : Nat} (hi : i < rs.length) : (cpP rs i)[i]? = some [] := by
 rw [cpP, List.getElem?_map, List.getElem?_range hi, Option.map_some, if_neg (by omega)]
theorem cpP_set (rs : List (List Int)) (i : Nat) : (cpP rs i).set i (rs.getD i []) = cpP rs (i + 1) := by
 apply List.ext_getElem (by simp [cpP])
 intro j h1 h2
 rw [List.getElem_set]
 simp only [cpP, List.getElem_map, List.getElem_range]
 by_cases e : i = j
 ·subst e; rw [if_pos rfl, if_pos (by omega)]
 ·rw [if_neg e]
  by_cases h : j < i
  ·rw [if_pos h, if_pos (by omega)]
  ·rw [if_neg h, if_neg (by omega)]
theorem copied_any (rs : List (List Int)) (v : Value) (w : World) (h : RdM w v rs) (hn : rs.length ≤ 1000000) (hm : ∀ r ∈ rs, r.length ≤ 1000000) :
  Calls Tryd.prog 136 #[v] w fun e w' => (∃ v', e = .returned v' ∧ OwnM w' w.heap.size v' rs) ∧ Below w.heap.size w w' := by
 have hr := h
 obtain ⟨A, c, rfl, h1, h2, h3⟩ := h.open_
 have hmk := run_make_row' (P := Tryd.prog) 59 22 _ _ Tryd.underlying59 infoR rfl .i64 .i64 rs.length (by omega) (by omega)
 have h0 := OwnM_made w w.heap.size rs.length (Nat.le_refl _) (by unfold maxLen; omega)
 rw [← cpP_zero rs] at h0
 have hB0 : Below w.heap.size w (w.alloc (.cells (madeCells #[.slice none 0 0] rs.length) 22)) := (Below.refl _ _).alloc (Nat.le_refl _) _
 have hml : Hid (∀ i, i < rs.length → (rs.getD i []).length ≤ 1000000) := Lib.hid (fun i hi => hm _ (by rw [List.getD_eq_getElem?_getD, List.getElem?_eq_getElem hi]; exact List.getElem_mem _))
 replace h3 := Lib.hid h3
 replace h0 := Lib.hid h0
 generalize hN : rs.length = n at *
 replace hN := Lib.hid hN
 clear h hr hm
 go_enter Tryd.func136, Tryd.ntmps136
 go_wp2
 generalize w.alloc (.cells (madeCells #[.slice none 0 0] n) 22) = w1 at h0 hB0 ⊢
 go_loopw [4, 10] (fun _ i wr => ∃ k : Nat, k ≤ n ∧ i = .int .i64 k ∧ Below w.heap.size w wr ∧ Hid (OwnM wr w.heap.size (.slice (some ⟨w.heap.size, 0, none⟩) n n) (cpP rs k))) (fun _ i _ => n - (intOf i).toNat)
 case atStart => exact ⟨0, Nat.zero_le _, rfl, hB0, h0⟩
 case round =>
  obtain ⟨k, hk, rfl, hB, hM⟩ := hrel
  by_cases hlt : k < n
  ·obtain ⟨b, off, u, rfl, hc, hu⟩ := h3.out k hlt
   have hc' := (hB.cell (p := ⟨b, off + k, none⟩) (World.block_lt_of_cell? w _ hc)).trans hc
   have hcl := Lib.hid (Clone_any (rs.getD k []) u wr (hu.below hB (Nat.le_refl _)) (hml.out k hlt))
   have hg0 := cpP_get rs (i := k) (by rw [hN.out]; exact hlt)
   obtain ⟨_, hgs, u0, hc0, hf0, ho0, hub⟩ := hM.out.row' hg0
   replace ho0 := Lib.hid ho0
   replace hg0 := Lib.hid hg0
   replace hub := Lib.hid hub
   clear hc hu
   have k1 : (k : Int) < (n : Int) := by omega
   have k0 : (0 : Int) ≤ (k : Int) := by omega
   go_wp2_with fail
   refine hcl.out.mono ?_; rintro e w2 ⟨⟨v2, rfl, ho2⟩, hb2⟩
   have hc2 := (hb2.cell (p := ⟨w.heap.size, k, none⟩) (World.block_lt_of_cell? wr _ hc0)).trans hc0
   have hf2 := (hb2.frozen (p := ⟨w.heap.size, k, none⟩) (World.block_lt_of_cell? wr _ hc0)).trans hf0
   have hup := hM.out.upd hg0.out hc0 (grown_of_below hb2 _) (ho2.base hB.size) (by
    cases e : v2.ownBlock with
    | none => exact .inl rfl
    | some q => exact .inr (.inr ⟨q, rfl, (World.ownsRow.lt ho2 q e).1⟩))
   rw [cpP_set] at hup
   replace hup := Lib.hid hup
   obtain ⟨A2, c2, rfl⟩ : ∃ A2 c2, v2 = .slice A2 (rs.getD k []).length c2 := by
    rcases ho2.2 with ⟨e, e2⟩ | ⟨g, cap, cur, e, _⟩
    ·exact ⟨none, 0, by rw [e, e2]⟩
    ·exact ⟨_, cap, e⟩
   replace ho2 := Lib.hid ho2
   go_wp2
   go_roundw
   case rel => exact ⟨k + 1, by omega, by go_num, (Below.then_ hB hb2).setCell (Nat.le_refl _) _, hup⟩
   case measure => simp [intOf]; omega
  ·obtain rfl : n = k := by omega
   go_wp2
   go_ret
   exact ⟨⟨_, rfl, by have := hM.out; rwa [← hN.out, cpP_end, hN.out] at this⟩, hB⟩
end Go.Proofs.YtlpldfocljnpnaaDoor
namespace Go.Proofs.YtlpldfocljnpnaaDoor
open Go.RowKit
def natI (l : List Nat) : List Int := l.map fun (k : Nat) => (k : Int)
def nmP (n k : Nat) : List Int := (List.range n).map fun j => if j < k then (j : Int) else 0
theorem nmP_zero (n : Nat) : nmP n 0 = List.replicate n 0 := by
 apply List.ext_getElem (by simp [nmP])
 intro j h1 h2
 simp [nmP]
theorem nmP_end (n : Nat) : nmP n n = natI (List.range n) := by
 apply List.map_congr_left; intro j hj
 rw [if_pos (by simpa using hj)]
theorem nmP_len (n k : Nat) : (nmP n k).length = n := by simp [nmP]
theorem nmP_set (n k : Nat) : (nmP n k).set k (k : Int) = nmP n (k + 1) := by
 apply List.ext_getElem (by simp [nmP])
 intro j h1 h2
 rw [List.getElem_set]
 simp only [nmP, List.getElem_map, List.getElem_range]
 by_cases e : k = j
 ·subst e; rw [if_pos rfl, if_pos (by omega)]
 ·rw [if_neg e]
  by_cases h : j < k
  ·rw [if_pos h, if_pos (by omega)]
  ·rw [if_neg h, if_neg (by omega)]
theorem OwnI_made (w : World) (base n : Nat) (hb : base ≤ w.heap.size) (hn : n ≤ maxLen) : OwnI (w.alloc (.cells (madeCells #[.int .i64 0] n) 3)) base (.slice (some ⟨w.heap.size, 0, none⟩) n n) (List.replicate n 0) := by
 have hr := World.ownsRow_lit (base := base) (e := 3) (size := 1) w (madeCells #[.int .i64 0] n) n hb hn (by rw [size_madeCells]; omega)
 rw [toList_madeCells_one] at hr
 unfold OwnI
 rw [List.length_replicate, show ints (List.replicate n 0) = List.replicate n (.int .i64 0) from by simp [ints]]
 exact hr
theorem OwnI.put {w : World} {base g n c : Nat} {xs : List Int} (h : OwnI w base (.slice (some ⟨g, 0, none⟩) n c) xs) (k : Nat) (x : Int) : OwnI (w.setCell ⟨g, k, none⟩ (.int .i64 x)) base (.slice (some ⟨g, 0, none⟩) n c) (xs.set k x) := by
 unfold OwnI at h ⊢
 have hn : xs.length = n := by
  rcases h.2 with ⟨e, _⟩ | ⟨_, _, _, e, _⟩
  ·simp at e
  ·simp only [Value.slice.injEq] at e; exact e.2.1.symm
 subst hn
 have := (h.stored k (.int .i64 x)).1
 rw [List.length_set, show ints (xs.set k x) = (ints xs).set k (.int .i64 x) from by simp [ints, List.map_set]]
 exact this
theorem OwnI.num {w : World} {base g n c : Nat} {xs : List Int} (h : OwnI w base (.slice (some ⟨g, 0, none⟩) n c) xs) {k : Nat} (hk : k < xs.length) : w.cell? ⟨g, k, none⟩ = some (.int .i64 (xs.getD k 0)) ∧ w.frozen? ⟨g, k, none⟩ = false := by
 unfold OwnI at h
 have hn : xs.length = n := by
  rcases h.2 with ⟨e, _⟩ | ⟨_, _, _, e, _⟩
  ·simp at e
  ·simp only [Value.slice.injEq] at e; exact e.2.1.symm
 subst hn
 exact ⟨by rw [h.cellAt k (by omega), ints_get, List.getElem?_eq_getElem hk]; simp [List.getD_eq_getElem?_getD, hk], h.frozenAt k⟩
theorem OwnI.block {w : World} {base g n c : Nat} {xs : List Int} (h : OwnI w base (.slice (some ⟨g, 0, none⟩) n c) xs) : base ≤ g ∧ ∃ cur, w.heap[g]? = some (.cells cur 3 (0, 0)) := by
 unfold OwnI at h
 rcases h.2 with ⟨e, _⟩ | ⟨g', _, cur, e, hb, hh, _⟩
 ·simp at e
 ·simp only [Value.slice.injEq, Option.some.injEq, Addr.mk.injEq, and_true] at e
  obtain ⟨rfl, -, -⟩ := e
  exact ⟨hb, cur, hh⟩
theorem numbers_any (n : Nat) (w : World) (hn : n ≤ 1000000) :
  Calls Tryd.prog 137 #[.int .i64 n] w fun e w' => e = .returned (.slice (some ⟨w.heap.size, 0, none⟩) n n) ∧ OwnI w' w.heap.size (.slice (some ⟨w.heap.size, 0, none⟩) n n) (natI (List.range n)) ∧ Below w.heap.size w w' := by
 have hmk := run_make_row' (P := Tryd.prog) 22 3 _ _ Tryd.underlying22 infoI rfl .i64 .i64 n (by omega) (by omega)
 have h0 := OwnI_made w w.heap.size n (Nat.le_refl _) (by unfold maxLen; omega)
 rw [← nmP_zero n] at h0
 replace h0 := Lib.hid h0
 have hB0 : Below w.heap.size w (w.alloc (.cells (madeCells #[.int .i64 0] n) 3)) := (Below.refl _ _).alloc (Nat.le_refl _) _
 go_enter Tryd.func137, Tryd.ntmps137
 go_wp2
 generalize w.alloc (.cells (madeCells #[.int .i64 0] n) 3) = w1 at h0 hB0 ⊢
 go_loopw [4, 8] (fun _ i wr => ∃ k : Nat, k ≤ n ∧ i = .int .i64 k ∧ Below w.heap.size w wr ∧ Hid (OwnI wr w.heap.size (.slice (some ⟨w.heap.size, 0, none⟩) n n) (nmP n k))) (fun _ i _ => n - (intOf i).toNat)
 case atStart => exact ⟨0, Nat.zero_le _, rfl, hB0, h0⟩
 case round =>
  obtain ⟨k, hk, rfl, hB, hM⟩ := hrel
  by_cases hlt : k < n
  ·obtain ⟨hc, hf⟩ := hM.out.num (k := k) (by rw [nmP_len]; exact hlt)
   have hup := hM.out.put k (k : Int)
   rw [nmP_set] at hup
   replace hup := Lib.hid hup
   generalize (nmP n k).getD k 0 = x at hc
   have k1 : (k : Int) < (n : Int) := by omega
   have k0 : (0 : Int) ≤ (k : Int) := by omega
   go_wp2
   go_roundw
   case rel => exact ⟨k + 1, by omega, by go_num, hB.setCell (Nat.le_refl _) _, hup⟩
   case measure => simp [intOf]; omega
  ·obtain rfl : n = k := by omega
   go_wp2
   go_ret
   exact ⟨rfl, by have := hM.out; rwa [nmP_end] at this, hB⟩
def rvP (xs : List Int) (k : Nat) : List Int := (List.range xs.length).map fun j => if j < k ∨ xs.length - k ≤ j then xs.getD (xs.length - 1 - j) 0 else xs.getD j 0
theorem rvP_zero (xs : List Int) : rvP xs 0 = xs := by
 apply List.ext_getElem (by simp [rvP])
 intro j h1 h2
 simp only [rvP, List.getElem_map, List.getElem_range]
 rw [if_neg (by omega), List.getD_eq_getElem?_getD, List.getElem?_eq_getElem h2]; rfl
theorem rvP_len (xs : List Int) (k : Nat) : (rvP xs k).length = xs.length := by simp [rvP]
theorem rvP_end (xs : List Int) {k : Nat} (h : xs.length ≤ 2 * k + 1) : rvP xs k = xs.reverse := by
 apply List.ext_getElem (by simp [rvP])
 intro j h1 h2
 have hj : j < xs.length := by simpa using h2
 simp only [rvP, List.getElem_map, List.getElem_range, List.getElem_reverse]
 by_cases hc : j < k ∨ xs.length - k ≤ j
 ·rw [if_pos hc, List.getD_eq_getElem?_getD, List.getElem?_eq_getElem (by omega)]; rfl
 ·rw [if_neg hc, List.getD_eq_getElem?_getD, List.getElem?_eq_getElem hj]
  simp only [Option.getD_some]
  congr 1; omega
theorem rvP_get (xs : List Int) {k j : Nat} (hj : j < xs.length) (h1 : k ≤ j) (h2 : j < xs.length - k) : (rvP xs k).getD j 0 = xs.getD j 0 := by
 rw [List.getD_eq_getElem?_getD, rvP, List.getElem?_map, List.getElem?_range hj, Option.map_some, if_neg (by omega)]; rfl
theorem rvP_set (xs : List Int) {k : Nat} (h : k < xs.length - 1 - k) : ((rvP xs k).set k (xs.getD (xs.length - 1 - k) 0)).set (xs.length - 1 - k) (xs.getD k 0) = rvP xs (k + 1) := by
 apply List.ext_getElem (by simp [rvP])
 intro j h1 h2
 have hj : j < xs.length := by simpa [rvP] using h2
 rw [List.getElem_set]
 by_cases e : xs.length - 1 - k = j
 ·rw [if_pos e]
  simp only [rvP, List.getElem_map, List.getElem_range]
  rw [if_pos (by omega)]; congr 1; omega
 ·rw [if_neg e, List.getElem_set]
  by_cases e2 : k = j
  ·subst e2
   rw [if_pos rfl]
   simp only [rvP, List.getElem_map, List.getElem_range]
   rw [if_pos (by omega)]
  ·rw [if_neg e2]
   simp only [rvP, List.getElem_map, List.getElem_range]
   by_cases hc : j < k ∨ xs.length - k ≤ j
   ·rw [if_pos hc, if_pos (by omega)]
   ·rw [if_neg hc, if_neg (by omega)]
theorem OwnI.len {w : World} {base g n c : Nat} {xs : List Int} (h : OwnI w base (.slice (some ⟨g, 0, none⟩) n c) xs) : xs.length = n := by
 unfold OwnI at h
 rcases h.2 with ⟨e, _⟩ | ⟨_, _, _, e, _⟩
 ·simp at e
 ·simp only [Value.slice.injEq] at e; exact e.2.1.symm
theorem Reverse_any (xs : List Int) (n base g c : Nat) (w : World) (h : OwnI w base (.slice (some ⟨g, 0, none⟩) n c) xs) (hn : n ≤ 1000000) :
  Calls Tryd.prog 138 #[.slice (some ⟨g, 0, none⟩) n c] w fun e w' => e = .returned (.tuple #[]) ∧ OwnI w' base (.slice (some ⟨g, 0, none⟩) n c) xs.reverse ∧ KeptBut [.slice (some ⟨g, 0, none⟩) n c] w w' := by
 have hl := h.len
 by_cases h0 : n = 0
 ·subst h0
  have hx : xs = [] := List.eq_nil_of_length_eq_zero hl
  subst hx
  replace h := Lib.hid h
  clear hl
  go_enter Tryd.func138, Tryd.ntmps138
  go_wp2
  refine wp_loop_rounds 1 ?_
  rw [rounds_succ]
  go_wp2
  go_end0
  exact ⟨rfl, h.out, KeptBut.refl _ _⟩
 ·replace h := Lib.hid h
  replace hl := Lib.hid hl
  go_enter Tryd.func138, Tryd.ntmps138
  go_wp2
  go_loopw [2, 3] (fun i j wr => ∃ k q : Nat, q + k + 1 = n ∧ k ≤ q + 1 ∧ i = .int .i64 k ∧ j = .int .i64 q ∧ Hid (OwnI wr base (.slice (some ⟨g, 0, none⟩) n c) (rvP xs k)) ∧ Hid (KeptBut [.slice (some ⟨g, 0, none⟩) n c] w wr)) (fun i _ _ => n - (intOf i).toNat)
  case atStart => exact ⟨0, n - 1, by omega, by omega, rfl, by congr 1; omega, Lib.hid (by rw [rvP_zero]; exact h.out), Lib.hid (KeptBut.refl _ _)⟩
  case round =>
   obtain ⟨k, q, hq, hkq, rfl, rfl, hM, hK⟩ := hrel
   by_cases hlt : k < q
   ·obtain ⟨hc, hf⟩ := hM.out.num (k := k) (by rw [rvP_len, hl.out]; omega)
    obtain ⟨hc2, hf2⟩ := hM.out.num (k := q) (by rw [rvP_len, hl.out]; omega)
    have hup := (hM.out.put k (xs.getD q 0)).put q (xs.getD k 0)
    have hset := rvP_set xs (k := k) (by rw [hl.out]; omega)
    rw [show xs.length - 1 - k = q from by rw [hl.out]; omega] at hset
    rw [hset] at hup
    rw [rvP_get xs (by rw [hl.out]; omega) (Nat.le_refl _) (by rw [hl.out]; omega)] at hc
    rw [rvP_get xs (by rw [hl.out]; omega) (by omega) (by rw [hl.out]; omega)] at hc2
    replace hup := Lib.hid hup
    clear hset
    generalize xs.getD k 0 = x at *
    generalize xs.getD q 0 = y at *
    have hne : ¬ k = q := by omega
    have k1 : (k : Int) < (n : Int) := by omega
    have k0 : (0 : Int) ≤ (k : Int) := by omega
    have q1 : (q : Int) < (n : Int) := by omega
    have q0 : (0 : Int) ≤ (q : Int) := by omega
    obtain ⟨p, rfl⟩ : ∃ p, q = p + 1 := ⟨q - 1, by omega⟩
    go_wp2
    go_region
    all_goals
     go_wp2
     go_roundw
     case rel => exact ⟨k + 1, p, by omega, by omega, by go_num, rfl, Lib.hid (hup.out.below (Below.refl _ _).drew), Lib.hid (((hK.out.setCell (List.mem_singleton.2 rfl) rfl _).setCell (List.mem_singleton.2 rfl) rfl _).drew)⟩
     case measure => simp [intOf]; omega
   ·go_wp2
    go_end0
    exact ⟨rfl, by have := hM.out; rwa [rvP_end _ (by rw [hl.out]; omega)] at this, hK.out⟩
end Go.Proofs.YtlpldfocljnpnaaDoor
