/- A region of open order Drawn regions as theorems of their own A drawn region by an invariant The plain functions that the code of layer 16 computes. Residues modulo the prime 65521 are a field Sums of residues, and that more rows than columns depend on each other. Determinants Lemmas on numbers and lists that the walks use. What slices read as Rows and matrices that a call has made itself. Matrices of the call's own, their rows' values told inverse, clear -/
import Derived.OrdersHeld
import Derived.WalkKit
import Derived.Lib.Hide
import Derived.WalkSpells
import Derived.Maps.AppendAt
import Derived.Test.YtlpldfocljnpnaaDoorProg
import Derived.OneCell
import Derived.Deep.AppendLies
import Derived.KernelRfl
import Derived.StillTailTactics
set_option maxRecDepth 100000
set_option maxHeartbeats 6400000
set_option linter.unusedSimpArgs false
namespace Go.Proofs.YtlpldfocljnpnaaDoor
open Go
theorem s_1 {α : Type} {l : List α} {i : Nat} (h : i < l.toArray.size) : l.toArray[i] = l[i]'(by simpa using h) := List.getElem_toArray h
theorem s_2 {α : Type} {a : α} {l : List α} (h : 0 < (a :: l).length) : (a :: l)[0]'h = a := rfl
theorem s_3 {α : Type} {a : α} {l : List α} {i : Nat} (h : i + 1 < (a :: l).length) : (a :: l)[i + 1]'h = l[i]'(by simpa using h) := rfl
theorem s_4 {α : Type} {l : List α} {i : Nat} {x : α} : l.toArray.setIfInBounds i x = (l.set i x).toArray := by simp
theorem s_5 {α : Type} {a b : α} {l : List α} : (a :: l).set 0 b = b :: l := rfl
theorem s_6 {α : Type} {a b : α} {l : List α} {n : Nat} : (a :: l).set (n + 1) b = a :: l.set n b := rfl
section
variable {P : Program} {ops : Array Oper} {Q : Exit → Act → World → Prop} {md : Region.Mode} {S T : World → Prop} {d : Nat}
def wpAnyD (P : Program) (md : Region.Mode) (ops : Array Oper) (Q : Exit → Act → World → Prop) (S T : World → Prop) (d : Nat) : Nat → Array Bool → Act → World → Prop
 | 0, listed, a, w => Region.ready md ops listed = [] ∧ Q .normal a w
 | fuel + 1, listed, a, w =>
  (Region.ready md ops listed = [] → Q .normal a w) ∧
  ∀ i ∈ Region.ready md ops listed, wpOp P ops Q i (fun a' w' => (S w' ∧ (i ≠ d → listed.getD d true = false → T w')) ∧ wpAnyD P md ops Q S T d fuel (listed.setIfInBounds i true) a' w') a w
theorem wpAny_of_D : ∀ (fuel : Nat) (listed : Array Bool) (a : Act) (w : World), wpAnyD P md ops Q S T d fuel listed a w → wpAny P md ops Q fuel listed a w
 | 0, _, _, _, h => h
 | fuel + 1, _, _, _, h => ⟨h.1, fun i hi => wpOp_mono (fun a' w' h' => wpAny_of_D fuel _ a' w' h'.2) (h.2 i hi)⟩
theorem wpAnyD_first {U : World → Prop} {i : Nat} {oi : Oper} {v : Value} (hi : ops[i]? = some oi) (hsel : ∀ (j : Nat) (o : Oper) cs b, ops[j]? = some o → o.op ≠ .select cs b)
  (hQ : ∀ c a w, Q (.panic c) (a.put oi.dst v) w → Q (.panic c) a w) (hid : i ≠ d) :
  ∀ (fuel : Nat) (listed : Array Bool) (a : Act) (w : World),
   (∀ j oj, ops[j]? = some oj → j ≠ i → listed.getD j true = false → (∀ e ∈ oj.after, Region.binds md e = true → e.on ≠ i) → oi.apart ops oj = true) →
   i ∈ Region.ready md ops listed → YieldsIf P ops U oi v a → S w →
   ((∀ w, S w → U w) ∨ ((∀ w, S w → T w → U w) ∧ (∀ od, ops[d]? = some od → ∃ e ∈ od.after, Region.binds md e = true ∧ e.on = i) ∧ listed.getD d true = false)) → (listed.getD d true = false → T w) →
   wpAnyD P md ops Q S T d fuel (listed.setIfInBounds i true) (a.put oi.dst v) w → wpAnyD P md ops Q S T d (fuel + 1) listed a w := by
 have hget : ∀ (l : Array Bool), (l.setIfInBounds i true).getD d true = l.getD d true := fun l => getD_set_ne true hid
 intro fuel
 induction fuel with
 | zero =>
  intro listed a w _ hr hy hS hD hT H
  have hUw : U w := by
   rcases hD with h | ⟨h, _, h3⟩
   ·exact h w hS
   ·exact h w hS (hT h3)
  refine ⟨fun h => (by rw [h] at hr; cases hr), fun j hj => ?_⟩
  by_cases hji : j = i
  ·subst hji; exact hy.wpOp hi hUw ⟨⟨hS, fun _ h => hT h⟩, H⟩
  ·have := ready_mono hj hji
   rw [H.1] at this
   cases this
 | succ fuel ih =>
  intro listed a w hfree hr hy hS hD hT H
  have hUw : U w := by
   rcases hD with h | ⟨h, _, h3⟩
   ·exact h w hS
   ·exact h w hS (hT h3)
  refine ⟨fun h => (by rw [h] at hr; cases hr), fun j hj => ?_⟩
  by_cases hji : j = i
  ·subst hji; exact hy.wpOp hi hUw ⟨⟨hS, fun _ h => hT h⟩, H⟩
  ·have h1 := H.2 j (ready_mono hj hji)
   obtain ⟨hjun, oj, hoj, hall⟩ := mem_ready.1 hj
   have hiun := (mem_ready.1 hr).1
   have hnot : ∀ e ∈ oj.after, Region.binds md e = true → e.on ≠ i := fun e he hb heq => by
    have h1 := hall e he hb
    rw [heq] at h1
    rcases Nat.lt_or_ge i listed.size with h' | h'
    ·simp [h'] at hiun h1; rw [hiun] at h1; cases h1
    ·simp [Array.getElem?_eq_none h'] at h1
   have h2 := wpOp_putIf hoj (hfree j oj hoj hji hjun hnot) (fun cs b => hsel i oi cs b hi) (fun cs b => hsel j oj cs b hoj) hQ hy h1
   have hfree' : ∀ k ok, ops[k]? = some ok → k ≠ i → (listed.setIfInBounds j true).getD k true = false →
     (∀ e ∈ ok.after, Region.binds md e = true → e.on ≠ i) → oi.apart ops ok = true := fun k ok hk hki hun hno => by
    refine hfree k ok hk hki ?_ hno
    by_cases hjk : j = k
    ·subst hjk; exact hjun
    ·rw [getD_set_ne true hjk] at hun; exact hun
   refine wpOp_mono (fun a' w' h3 => ?_) h2
   have hS' := h3.2.1.1
   have hT' : j ≠ d → listed.getD d true = false → T w' := fun h4 h5 => h3.2.1.2 h4 (by rw [hget]; exact h5)
   refine ⟨⟨hS', hT'⟩, ih (listed.setIfInBounds j true) a' w' hfree' (ready_mono hr (Ne.symm hji)) h3.1 hS' ?_ (fun h5 => ?_) ?_⟩
   ·rcases hD with h | ⟨h, h4, h5⟩
    ·exact .inl h
    ·have hjd : j ≠ d := fun e => by
      subst e
      obtain ⟨e, he, hb, hon⟩ := h4 oj hoj
      exact hnot e he hb hon
     exact .inr ⟨h, h4, by rw [getD_set_ne true hjd]; exact h5⟩
   ·have hjd : j ≠ d := fun e => by
     subst e
     have hjs : j < listed.size := by
      rcases Nat.lt_or_ge j listed.size with h | h
      ·exact h
      ·simp [Array.getElem?_eq_none h] at hjun
     simp [hjs] at h5
    rw [getD_set_ne true hjd] at h5
    exact hT' hjd h5
   ·rw [Array.setIfInBounds_comm _ _ hji]
    exact h3.2.2
def waits (md : Region.Mode) (ops : Array Oper) (d i : Nat) : Bool := match ops[d]? with
 | some od => od.after.any fun e => Region.binds md e && e.on == i
 | none => true
theorem waits_spec {d i : Nat} (h : waits md ops d i = true) : ∀ od, ops[d]? = some od → ∃ e ∈ od.after, Region.binds md e = true ∧ e.on = i := by
 intro od hod
 unfold waits at h
 rw [hod] at h
 obtain ⟨e, he, hb⟩ := Array.any_eq_true'.1 h
 simp only [Bool.and_eq_true, beq_iff_eq] at hb
 exact ⟨e, he, hb.1, hb.2⟩
variable {i fuel : Nat} {oi : Oper} {v : Value} {listed : Array Bool} {a : Act} {w : World}
theorem D_take (hi : ops[i]? = some oi) (hs : Region.noSelect ops = true) (hf : Region.free md ops listed i = true) (hr : (Region.ready md ops listed).contains i = true) (hid : Nat.beq i d = false)
  (hQ : ∀ c a w, Q (.panic c) (a.put oi.dst v) w → Q (.panic c) a w) (hy : YieldsIf P ops S oi v a) (hS : S w) (hT : listed.getD d true = false → T w)
  (h : wpAnyD P md ops Q S T d fuel (listed.setIfInBounds i true) (a.put oi.dst v) w) : wpAnyD P md ops Q S T d (fuel + 1) listed a w :=
 wpAnyD_first (U := S) hi (Region.noSelect_spec hs) hQ (fun e => by subst e; simp at hid) fuel listed a w (Region.free_spec hi hf) (by simpa using hr) hy hS (.inl fun _ h => h) hT h
theorem D_load (hi : ops[i]? = some oi) (hs : Region.noSelect ops = true) (hf : Region.free md ops listed i = true) (hr : (Region.ready md ops listed).contains i = true) (hid : Nat.beq i d = false)
  (hw : waits md ops d i = true) (hd : listed.getD d true = false)
  (hQ : ∀ c a w, Q (.panic c) (a.put oi.dst v) w → Q (.panic c) a w) (hy : YieldsIf P ops (fun w => S w ∧ T w) oi v a) (hS : S w) (hT : T w)
  (h : wpAnyD P md ops Q S T d fuel (listed.setIfInBounds i true) (a.put oi.dst v) w) : wpAnyD P md ops Q S T d (fuel + 1) listed a w :=
 wpAnyD_first (U := fun w => S w ∧ T w) hi (Region.noSelect_spec hs) hQ (fun e => by subst e; simp at hid) fuel listed a w (Region.free_spec hi hf) (by simpa using hr) hy hS (.inr ⟨fun _ h1 h2 => ⟨h1, h2⟩, waits_spec hw, hd⟩) (fun _ => hT) h
theorem D_one (hr : Region.ready md ops listed = [i]) (hi : ops[i]? = some oi)
  (h : ∀ K : Act → World → Prop, (∀ a' w', S w' → (i ≠ d → listed.getD d true = false → T w') → wpAnyD P md ops Q S T d fuel (listed.setIfInBounds i true) a' w' → K a' w') →
   if Region.wanted oi (yielded ops a.tmps) = true then Oper.wp P oi a w K Q else K (a.put oi.dst undef) w) : wpAnyD P md ops Q S T d (fuel + 1) listed a w := by
 refine ⟨fun h0 => (by rw [hr] at h0; cases h0), fun j hj => ?_⟩
 rw [hr] at hj
 obtain rfl : j = i := by simpa using hj
 have h2 := h (fun a' w' => (S w' ∧ (j ≠ d → listed.getD d true = false → T w')) ∧ wpAnyD P md ops Q S T d fuel (listed.setIfInBounds j true) a' w') (fun a' w' h1 h2 h3 => ⟨⟨h1, h2⟩, h3⟩)
 unfold wpOp
 simp only [hi]
 split
 ·rename_i hw; rw [if_pos hw] at h2; exact .inl h2
 ·rename_i hw; rw [if_neg hw] at h2; exact h2
theorem Dt (i : Nat) {oi : Oper} (hi : ops[i]? = some oi) (v : Value) (hS : S w) (hT : listed.getD d true = false → T w) (hy : ∀ w, S w → (execOp a.eval oi).run P w = .ok (.value v) w) (h : wpAnyD P md ops Q S T d fuel (listed.setIfInBounds i true) (a.put oi.dst v) w)
  (hs : Region.noSelect ops = true := by kernel_rfl) (hf : Region.free md ops listed i = true := by kernel_rfl) (hr : (Region.ready md ops listed).contains i = true := by kernel_rfl) (hid : Nat.beq i d = false := by kernel_rfl)
  (hQ : ∀ c a w, Q (.panic c) (a.put oi.dst v) w → Q (.panic c) a w := by exact fun _ _ _ h => h) (hw : Region.wanted oi (yielded ops a.tmps) = true := by rfl) : wpAnyD P md ops Q S T d (fuel + 1) listed a w :=
 D_take hi hs hf hr hid hQ (Or.inl ⟨hw, hy⟩) hS hT h
theorem Du (i : Nat) {oi : Oper} (hi : ops[i]? = some oi) (hS : S w) (hT : listed.getD d true = false → T w) (h : wpAnyD P md ops Q S T d fuel (listed.setIfInBounds i true) (a.put oi.dst undef) w)
  (hs : Region.noSelect ops = true := by kernel_rfl) (hf : Region.free md ops listed i = true := by kernel_rfl) (hr : (Region.ready md ops listed).contains i = true := by kernel_rfl) (hid : Nat.beq i d = false := by kernel_rfl)
  (hQ : ∀ c a w, Q (.panic c) (a.put oi.dst undef) w → Q (.panic c) a w := by exact fun _ _ _ h => h) (hw : Region.wanted oi (yielded ops a.tmps) = false := by rfl) : wpAnyD P md ops Q S T d (fuel + 1) listed a w :=
 D_take hi hs hf hr hid hQ (Or.inr ⟨hw, rfl⟩) hS hT h
theorem D_done (hr : Region.ready md ops listed = []) (h : Q .normal a w) : ∀ fuel, wpAnyD P md ops Q S T d fuel listed a w
 | 0 => ⟨hr, h⟩
 | _ + 1 => ⟨fun _ => h, by rw [hr]; simp⟩
theorem D_begin {id : Nat} (S T : World → Prop) (d : Nat) (hm : P.follows .mixedOrders = true)
  (h : wpAnyD P .any ops Q S T d ops.size (Array.replicate ops.size false) a { w with drawn := w.drawn + 1 }) : (Code.region id ops true).wp P Q a w :=
 wp_region_any hm (wpAny_of_D _ _ _ _ h)
end
end Go.Proofs.YtlpldfocljnpnaaDoor
namespace Go.Proofs.YtlpldfocljnpnaaDoor
open Go.RowKit
def dgReg (n : Nat) : Code → Option Code
 | .seq a b => match dgReg n a with
  | some c => some c
  | none => dgReg n b
 | .scope c => dgReg n c
 | .block _ c => dgReg n c
 | .loop c => dgReg n c
 | .cond _ a b => match dgReg n a with
  | some c => some c
  | none => dgReg n b
 | .region k o d => if k == n then some (.region k o d) else none
 | _ => none
def dgOps : Code → Array Oper
 | .region _ o _ => o
 | _ => #[]
section
variable {P : Program} {ops : Array Oper} {Q : Exit → Act → World → Prop} {md : Region.Mode} {S T : World → Prop} {d fuel : Nat} {listed : Array Bool} {a : Act} {w : World}
variable {i j k l m : Nat} {oi oj ok ol om : Oper}
end
end Go.Proofs.YtlpldfocljnpnaaDoor
namespace Go.Proofs.YtlpldfocljnpnaaDoor
open Go Go.RowKit
section
variable {P : Program} {ops : Array Oper} {Q : Exit → Act → World → Prop} {md : Region.Mode}
def unl (l : Array Bool) : Nat → Nat
 | 0 => 0
 | n + 1 => unl l n + if l.getD n true = false then 1 else 0
theorem unl_set {l : Array Bool} {i : Nat} (hi : l.getD i true = false) : ∀ n, unl (l.setIfInBounds i true) n + (if i < n then 1 else 0) = unl l n
 | 0 => by simp [unl]
 | n + 1 => by
  have ih := unl_set hi n
  unfold unl
  by_cases e : i = n
  ·subst e
   have hs : i < l.size := by
    rcases Nat.lt_or_ge i l.size with h | h
    ·exact h
    ·rw [Array.getD_eq_getD_getElem?, Array.getElem?_eq_none h] at hi; cases hi
   have h1 : (l.setIfInBounds i true).getD i true = true := by simp [hs]
   rw [if_neg (Nat.lt_irrefl i)] at ih
   rw [h1, hi, if_pos (Nat.lt_succ_self i)]
   simp; omega
  ·rw [getD_set_ne true e]
   by_cases h : i < n
   ·rw [if_pos h] at ih; rw [if_pos (show i < n + 1 by omega)]; omega
   ·rw [if_neg h] at ih; rw [if_neg (show ¬ i < n + 1 by omega)]; omega
theorem unl_pos {l : Array Bool} {i : Nat} (hi : l.getD i true = false) : ∀ n, i < n → 0 < unl l n
 | 0, h => by omega
 | n + 1, h => by
  unfold unl
  by_cases e : i = n
  ·subst e; rw [if_pos hi]; omega
  ·have := unl_pos hi n (by omega); omega
theorem unl_new : ∀ n m, unl (Array.replicate m false) n ≤ n
 | 0, _ => Nat.le_refl _
 | n + 1, m => by
  have := unl_new n m
  unfold unl
  split <;> omega
theorem wpAny_inv (I : Array Bool → Act → World → Prop) (hend : ∀ l a w, I l a w → Region.ready md ops l = [] → Q .normal a w)
  (hstep : ∀ l a w i oi, I l a w → i ∈ Region.ready md ops l → ops[i]? = some oi → ∀ K : Act → World → Prop, (∀ a' w', I (l.setIfInBounds i true) a' w' → K a' w') →
   if Region.wanted oi (yielded ops a.tmps) = true then Oper.wp P oi a w K Q else K (a.put oi.dst undef) w) : ∀ fuel l a w, I l a w → unl l ops.size ≤ fuel → wpAny P md ops Q fuel l a w
 | 0, l, a, w, h, hf => by
  have hr : Region.ready md ops l = [] := by
   cases hr : Region.ready md ops l with
   | nil => rfl
   | cons i t =>
    obtain ⟨h1, oi, h2, -⟩ := mem_ready.1 (show i ∈ Region.ready md ops l by rw [hr]; exact List.mem_cons_self)
    have := unl_pos h1 ops.size (Array.getElem?_eq_some_iff.1 h2).1
    omega
  exact ⟨hr, hend l a w h hr⟩
 | fuel + 1, l, a, w, h, hf => by
  refine ⟨fun hr => hend l a w h hr, fun i hi => ?_⟩
  obtain ⟨h1, oi, h2, -⟩ := mem_ready.1 hi
  have h3 := hstep l a w i oi h hi h2 (wpAny P md ops Q fuel (l.setIfInBounds i true)) (fun a' w' h' => by
   refine wpAny_inv I hend hstep fuel _ a' w' h' ?_
   have := unl_set h1 ops.size
   rw [if_pos (Array.getElem?_eq_some_iff.1 h2).1] at this
   omega)
  unfold wpOp
  simp only [h2]
  split
  ·rename_i hw; rw [if_pos hw] at h3; exact .inl h3
  ·rename_i hw; rw [if_neg hw] at h3; exact h3
def dstOf (ops : Array Oper) (j : Nat) : Option Nat := (ops[j]?).bind (·.dst)
def dSlot (ops : Array Oper) (b : Array Value) (d : Nat → Bool) (V : Nat → Value) (t : Nat) : Value := match (List.range ops.size).find? fun j => dstOf ops j == some t && d j with
 | some j => V j
 | none => b.getD t undef
def dOk (ops : Array Oper) (n : Nat) : Bool := ((List.range ops.size).all fun i => (List.range ops.size).all fun j => i == j || (dstOf ops i).isNone || dstOf ops i != dstOf ops j) && ((List.range ops.size).all fun i => match dstOf ops i with | some t => decide (t < n) | none => true) && ops.all fun o => o.guard.isNone
def depsOf (md : Region.Mode) (ops : Array Oper) (i : Nat) : List Nat := match ops[i]? with
 | some o => (o.after.toList.filter fun e => Region.binds md e).map (·.on)
 | none => []
def noDst (ops : Array Oper) (t : Nat) : Bool := (List.range ops.size).all fun j => dstOf ops j != some t
theorem dSlot_base {b : Array Value} {d : Nat → Bool} {V : Nat → Value} {t : Nat} (h : noDst ops t = true) : dSlot ops b d V t = b.getD t undef := by
 unfold dSlot
 rw [List.find?_eq_none.2]
 intro j hj hc
 have := List.all_eq_true.1 h j hj
 simp only [Bool.and_eq_true, beq_iff_eq, bne_iff_ne, ne_eq] at hc this
 exact this hc.1
theorem dOk_ne {n i j t : Nat} (h : dOk ops n = true) (hi : dstOf ops i = some t) (hj : dstOf ops j = some t) : i = j := by
 have lt : ∀ {i : Nat}, dstOf ops i = some t → i < ops.size := fun {i} hi => by
  unfold dstOf at hi
  rcases Nat.lt_or_ge i ops.size with h | h
  ·exact h
  ·rw [Array.getElem?_eq_none h] at hi; cases hi
 unfold dOk at h
 simp only [Bool.and_eq_true, List.all_eq_true, List.mem_range, Bool.or_eq_true, beq_iff_eq, bne_iff_ne, ne_eq] at h
 have := h.1.1 i (lt hi) j (lt hj)
 rw [hi, hj] at this
 simpa using this
theorem dSlot_own {n : Nat} {b : Array Value} {d : Nat → Bool} {V : Nat → Value} {j t : Nat} (h : dOk ops n = true) (hj : dstOf ops j = some t) (hd : d j = true) : dSlot ops b d V t = V j := by
 unfold dSlot
 have hlt : j < ops.size := by
  unfold dstOf at hj
  rcases Nat.lt_or_ge j ops.size with h | h
  ·exact h
  ·rw [Array.getElem?_eq_none h] at hj; cases hj
 cases hf : (List.range ops.size).find? fun j => dstOf ops j == some t && d j with
 | none =>
  have := List.find?_eq_none.1 hf j (List.mem_range.2 hlt)
  simp [hj, hd] at this
 | some q =>
  have hq := List.find?_some hf
  simp only [Bool.and_eq_true, beq_iff_eq] at hq
  rw [dOk_ne h hq.1 hj]
def updD (d : Nat → Bool) (i : Nat) : Nat → Bool := fun j => j == i || d j
def updV (V : Nat → Value) (i : Nat) (u : Value) : Nat → Value := fun j => if j = i then u else V j
structure DInv (ops : Array Oper) (b : Array Value) (ds : List Deferred) (F : (Nat → Bool) → (Nat → Value) → World → Prop) (d : Nat → Bool) (V : Nat → Value) (a : Act) (w : World) : Prop where
 facts : F d V w
 defers : a.defers = ds
 size : a.tmps.size = b.size
 slot : ∀ t, a.tmps.getD t undef = dSlot ops b d V t
theorem DInv.put {b : Array Value} {ds : List Deferred} {F : (Nat → Bool) → (Nat → Value) → World → Prop} {d : Nat → Bool} {V : Nat → Value} {a : Act} {w w' : World} {i : Nat} {oi : Oper} {u : Value} (h : DInv ops b ds F d V a w) (hok : dOk ops b.size = true) (hoi : ops[i]? = some oi) (hF : F (updD d i) (updV V i u) w') :
  DInv ops b ds F (updD d i) (updV V i u) (a.put oi.dst u) w' := by
 have hdi : dstOf ops i = oi.dst := by unfold dstOf; rw [hoi]; rfl
 have hrest : ∀ t, dstOf ops i ≠ some t → dSlot ops b (updD d i) (updV V i u) t = dSlot ops b d V t := fun t ht => by
  have e : (fun j => dstOf ops j == some t && updD d i j) = fun j => dstOf ops j == some t && d j := by
   funext j
   by_cases ej : j = i
   ·subst ej
    rw [show (dstOf ops j == some t) = false by rw [beq_eq_false_iff_ne]; exact ht]; rfl
   ·unfold updD; rw [show (j == i) = false by rw [beq_eq_false_iff_ne]; exact ej, Bool.false_or]
  unfold dSlot
  rw [e]
  cases hf : (List.range ops.size).find? fun j => dstOf ops j == some t && d j with
  | none => rfl
  | some q =>
   have hq := List.find?_some hf
   simp only [Bool.and_eq_true, beq_iff_eq] at hq
   show updV V i u q = V q
   unfold updV
   rw [if_neg (fun e => ht (by rw [← e]; exact hq.1))]
 cases hds : oi.dst with
 | none =>
  refine ⟨hF, h.defers, h.size, fun t => ?_⟩
  rw [hrest t (by rw [hdi, hds]; simp)]
  exact h.slot t
 | some t0 =>
  have ht0 : t0 < b.size := by
   unfold dOk at hok
   simp only [Bool.and_eq_true, List.all_eq_true, List.mem_range] at hok
   have := hok.1.2 i (Array.getElem?_eq_some_iff.1 hoi).1
   rw [hdi, hds] at this
   simpa using this
  refine ⟨hF, h.defers, by show (a.tmps.setIfInBounds t0 u).size = _; rw [Array.size_setIfInBounds]; exact h.size, fun t => ?_⟩
  show (a.tmps.setIfInBounds t0 u).getD t undef = _
  by_cases e : t0 = t
  ·subst e
   rw [dSlot_own hok (by rw [hdi, hds]) (by unfold updD; simp)]
   unfold updV
   simp [h.size, ht0]
  ·rw [hrest t (by rw [hdi, hds]; simpa using e), ← h.slot t]
   simp [Array.getElem?_setIfInBounds_ne e]
def DStep (P : Program) (md : Region.Mode) (ops : Array Oper) (Q : Exit → Act → World → Prop) (b : Array Value) (F : (Nat → Bool) → (Nat → Value) → World → Prop) (i : Nat) : Prop :=
 ∀ (d : Nat → Bool) (V : Nat → Value) (a : Act) (w : World) (oi : Oper), ops[i]? = some oi → F d V w → d i = false → (∀ j, (depsOf md ops i).contains j = true → d j = true) → (∀ t, a.tmps[t]?.getD undef = dSlot ops b d V t) →
  ∀ K : Act → World → Prop, (∀ u w', F (updD d i) (updV V i u) w' → K (a.put oi.dst u) w') → Oper.wp P oi a w K Q
theorem updD_set {l : Array Bool} {i : Nat} (hi : i < l.size) : (fun j => (l.setIfInBounds i true).getD j true) = updD (fun j => l.getD j true) i := by
 funext j
 unfold updD
 by_cases e : i = j
 ·subst e; simp [hi]
 ·rw [getD_set_ne true e, show (j == i) = false by rw [beq_eq_false_iff_ne]; exact fun h => e h.symm, Bool.false_or]
def dFwd (md : Region.Mode) (ops : Array Oper) : Bool := (List.range ops.size).all fun i => (depsOf md ops i).all fun j => decide (j < i)
theorem all_up (hf : dFwd md ops = true) {l : Array Bool} (hl : l.size = ops.size) (hr : Region.ready md ops l = []) : ∀ j, j < ops.size → l.getD j true = true := fun j => by
 induction j using Nat.strongRecOn with
 | _ j ih =>
  intro hj
  cases h : l.getD j true with
  | true => rfl
  | false =>
   have hm : j ∈ Region.ready md ops l := mem_ready.2 ⟨h, ops[j], Array.getElem?_eq_getElem hj, fun e he hb => by
    have h1 := List.all_eq_true.1 (List.all_eq_true.1 hf j (List.mem_range.2 hj)) e.on (by
     unfold depsOf
     rw [Array.getElem?_eq_getElem hj]
     exact List.mem_map.2 ⟨e, List.mem_filter.2 ⟨Array.mem_toList_iff.2 he, hb⟩, rfl⟩)
    have h2 : e.on < j := by simpa using h1
    have h3 := ih e.on h2 (by omega)
    simpa [show e.on < l.size by omega] using h3⟩
   rw [hr] at hm
   cases hm
theorem region_inv {id : Nat} {b : Array Value} {ds : List Deferred} (F : (Nat → Bool) → (Nat → Value) → World → Prop) {w : World} (hm : P.follows .mixedOrders = true) (hok : dOk ops b.size = true) (h0 : F (fun j => decide (ops.size ≤ j)) (fun _ => undef) w.drew)
  (hs : ∀ i, i < ops.size → DStep P .any ops Q b F i) (hfw : dFwd .any ops = true)
  (hend : ∀ (V : Nat → Value) (w' : World), F (fun _ => true) V w' → Q .normal ⟨((List.range b.size).map (dSlot ops b (fun _ => true) V)).toArray, ds⟩ w') : (Code.region id ops true).wp P Q ⟨b, ds⟩ w := by
 refine wp_region_any hm (wpAny_inv (fun l a w => l.size = ops.size ∧ ∃ V, DInv ops b ds F (fun j => l.getD j true) V a w) ?_ ?_ _ _ _ _ ?_ (unl_new _ _))
 ·rintro l a w ⟨hl, V, h⟩ hr
  have hd : (fun j => l.getD j true) = fun _ => true := by
   funext j
   rcases Nat.lt_or_ge j ops.size with h | h
   ·exact all_up hfw hl hr j h
   ·simp [Array.getElem?_eq_none (show l.size ≤ j by omega)]
  rw [hd] at h
  have e : a = ⟨((List.range b.size).map (dSlot ops b (fun _ => true) V)).toArray, ds⟩ := by
   obtain ⟨tm, df⟩ := a
   have h1 := h.defers
   have h2 := h.size
   have h3 := h.slot
   simp only [] at h1 h2 h3
   subst h1
   congr 1
   apply Array.ext
   ·simp [h2]
   ·intro t ht1 ht2
    have := h3 t
    rw [Array.getD_eq_getD_getElem?, Array.getElem?_eq_getElem ht1] at this
    simp only [Option.getD_some] at this
    rw [this]; simp
  rw [e]
  exact hend V w h.facts
 ·rintro l a w i oi ⟨hl, V, h⟩ hi hoi K hK
  obtain ⟨h1, oi', h2, h3⟩ := mem_ready.1 hi
  obtain rfl : oi' = oi := by rw [hoi] at h2; exact (Option.some.inj h2).symm
  have hlt := (Array.getElem?_eq_some_iff.1 hoi).1
  have hg : oi'.guard = none := by
   unfold dOk at hok
   simp only [Bool.and_eq_true] at hok
   have := Array.all_eq_true'.1 hok.2 oi' (Array.mem_of_getElem? hoi)
   simpa using this
  rw [if_pos (by simp [Region.wanted, hg])]
  refine hs i hlt _ V a w oi' hoi h.facts h1 (fun j hj => ?_) (fun t => by rw [← Array.getD_eq_getD_getElem?]; exact h.slot t) K fun u w' hF => hK _ _ ⟨by rw [Array.size_setIfInBounds]; exact hl, updV V i u, ?_⟩
  ·replace hj : j ∈ depsOf .any ops i := by simpa using hj
   unfold depsOf at hj
   rw [hoi] at hj
   obtain ⟨e, he, rfl⟩ := List.mem_map.1 hj
   obtain ⟨he1, he2⟩ := List.mem_filter.1 he
   have := h3 e (Array.mem_toList_iff.1 he1) he2
   rcases Nat.lt_or_ge e.on l.size with h | h
   ·simpa [h] using this
   ·simp [Array.getElem?_eq_none h] at this
  ·rw [updD_set (by omega)]
   exact h.put hok hoi hF
 ·refine ⟨by simp, fun _ => undef, ?_, rfl, rfl, fun t => ?_⟩
  ·have e : (fun j => (Array.replicate ops.size false).getD j true) = fun j => decide (ops.size ≤ j) := by
    funext j
    rcases Nat.lt_or_ge j ops.size with h | h
    ·simp [h]
    ·simp [h]
   rw [e]; exact h0
  ·unfold dSlot
   rw [List.find?_eq_none.2]
   intro j hj hc
   have := List.mem_range.1 hj
   simp [this] at hc
theorem op_of_step {o : Oper} {a : Act} {w : World} {K : Act → World → Prop} (hg : o.guard = none) (h : if Region.wanted o (yielded #[] a.tmps) = true then Oper.wp P o a w K Q else True) : Oper.wp P o a w K Q := by
 rwa [if_pos (by simp [Region.wanted, hg])] at h
theorem eval_tmp {a : Act} {t : Nat} {v : Value} (h : a.tmps[t]?.getD undef = v) : a.eval (.tmp t) = v := by
 show a.tmps.getD t undef = v; rw [Array.getD_eq_getD_getElem?]; exact h
theorem noB {α : Prop} (h : true = false) : α := by cases h
end
end Go.Proofs.YtlpldfocljnpnaaDoor
namespace Go.Proofs.YtlpldfocljnpnaaDoor
def psum (f : Nat → Int) : Nat → Int
 | 0 => 0
 | n + 1 => psum f n + f n
def gM (a : List (List Int)) (i k : Nat) : Int := (a.getD i []).getD k 0
def mat (f : Nat → Nat → Int) (n m : Nat) : List (List Int) := (List.range n).map fun i => (List.range m).map (f i)
def okM (a : List (List Int)) (n m : Nat) : Prop := a.length = n ∧ ∀ r ∈ a, r.length = m ∧ ∀ x ∈ r, 0 ≤ x ∧ x < 65521
def isN (x : Int) : Bool := decide (0 ≤ x) && decide (x < 65521)
def isRes (xs : List Int) : Bool := xs.all isN
def invN (n : Int) : Int := ((n.toNat ^ 65519 % 65521 : Nat) : Int)
def scaleR (r : List Int) (b : Int) : List Int := (List.range r.length).map fun j => r.getD j 0 * b % 65521
def subR (r own : List Int) (off : Int) : List Int := (List.range r.length).map fun j => (r.getD j 0 + off * own.getD j 0) % 65521
def ownR (rs : List (List Int)) (row col : Nat) : List Int := scaleR (rs.getD row []) (invN (gM rs row col))
def clearM (rs : List (List Int)) (row col : Nat) : List (List Int) :=
 (List.range rs.length).map fun i => if i = row then ownR rs row col else if gM rs i col = 0 then rs.getD i [] else subR (rs.getD i []) (ownR rs row col) (65521 - gM rs i col)
structure Sys where
 rows : List (List Int)
 piv : List (Nat × Nat)
 det : Int
 turned : Bool
def findP (rs : List (List Int)) (k : Nat) : Nat → Nat → Option Nat
 | 0, _ => none
 | f + 1, i => if gM rs i k = 0 then findP rs k f (i + 1) else some i
def swapM (rs : List (List Int)) (i j : Nat) : List (List Int) := (rs.set i (rs.getD j [])).set j (rs.getD i [])
def pivS (s : Sys) (k i : Nat) : Sys :=
 let rs := swapM s.rows i s.piv.length
 {rows := clearM rs s.piv.length k, piv := s.piv ++ [(s.piv.length, k)], det := s.det * gM rs s.piv.length k % 65521, turned := if i = s.piv.length then s.turned else !s.turned }
def stepS (s : Sys) (k : Nat) : Sys :=
 match findP s.rows k (s.rows.length - s.piv.length) s.piv.length with
 | none => s
 | some i => pivS s k i
def solveS (rs : List (List Int)) (cols : List Nat) (t : Bool) : Sys := cols.foldl stepS ⟨rs, [], 1, t⟩
def augM (rs : List (List Int)) (b : List Int) : List (List Int) := (List.range rs.length).map fun i => rs.getD i [] ++ [b.getD i 0]
def sysM (rs : List (List Int)) (b : List Int) (cols : Nat) : Sys := solveS (augM rs b) (List.range cols).reverse false
def fillX (s : Sys) (cols : Nat) : List Int := s.piv.foldl (fun x p => x.set p.2 (gM s.rows p.1 cols)) (List.replicate cols 0)
def restOk (s : Sys) (cols : Nat) : Bool := (List.range s.rows.length).all fun i => decide (i < s.piv.length) || (gM s.rows i cols == 0)
def solvedM (rs : List (List Int)) (b : List Int) (cols : Nat) : Option (List Int) := if restOk (sysM rs b cols) cols then some (fillX (sysM rs b cols) cols) else none
theorem isRes_iff {xs : List Int} : isRes xs = true ↔ ∀ x ∈ xs, 0 ≤ x ∧ x < 65521 := by
 simp [isRes, isN, List.all_eq_true]
theorem okM.len {a : List (List Int)} {n m : Nat} (h : okM a n m) : a.length = n := h.1
theorem okM.row {a : List (List Int)} {n m : Nat} (h : okM a n m) {i : Nat} (hi : i < n) : (a.getD i []).length = m := by
 have hl : i < a.length := by rw [h.1]; exact hi
 rw [List.getD_eq_getElem?_getD, List.getElem?_eq_getElem hl]
 exact (h.2 _ (List.getElem_mem hl)).1
theorem okM.num {a : List (List Int)} {n m : Nat} (h : okM a n m) (i k : Nat) : 0 ≤ gM a i k ∧ gM a i k < 65521 := by
 unfold gM
 by_cases hi : i < a.length
 ·rw [List.getD_eq_getElem?_getD (l := a), List.getElem?_eq_getElem hi]
  simp only [Option.getD_some]
  by_cases hk : k < (a[i]).length
  ·rw [List.getD_eq_getElem?_getD, List.getElem?_eq_getElem hk]
   exact (h.2 _ (List.getElem_mem hi)).2 _ (List.getElem_mem hk)
  ·rw [List.getD_eq_getElem?_getD, List.getElem?_eq_none (by omega)]; decide
 ·rw [List.getD_eq_getElem?_getD (l := a), List.getElem?_eq_none (by omega)]; simp
theorem okM_mat (f : Nat → Nat → Int) (n m : Nat) (h : ∀ i k, i < n → k < m → 0 ≤ f i k ∧ f i k < 65521) : okM (mat f n m) n m := by
 refine ⟨by simp [mat], fun r hr => ?_⟩
 obtain ⟨i, hi, rfl⟩ := List.mem_map.1 hr
 refine ⟨by simp, fun x hx => ?_⟩
 obtain ⟨k, hk, rfl⟩ := List.mem_map.1 hx
 exact h i k (by simpa using hi) (by simpa using hk)
theorem mat_len (f : Nat → Nat → Int) (n m : Nat) : (mat f n m).length = n := by simp [mat]
theorem mat_getD (f : Nat → Nat → Int) {n m i : Nat} (hi : i < n) : (mat f n m).getD i [] = (List.range m).map (f i) := by
 rw [List.getD_eq_getElem?_getD, mat, List.getElem?_map, List.getElem?_range hi]; rfl
theorem gM_mat (f : Nat → Nat → Int) {n m i k : Nat} (hi : i < n) (hk : k < m) : gM (mat f n m) i k = f i k := by
 rw [gM, mat_getD f hi, List.getD_eq_getElem?_getD, List.getElem?_map, List.getElem?_range hk]; rfl
theorem psum_bd {f : Nat → Int} (h : ∀ j, 0 ≤ f j ∧ f j < 65521) (n : Nat) : 0 ≤ psum f n ∧ psum f n ≤ 65520 * n := by
 induction n with
 | zero => exact ⟨Int.le_refl _, by simp [psum]⟩
 | succ n ih => have := h n; simp only [psum]; omega
end Go.Proofs.YtlpldfocljnpnaaDoor
namespace Go.Proofs.YtlpldfocljnpnaaDoor
theorem small_div : ∀ q : Fin 257, 1 < q.val → 65521 % q.val ≠ 0 := by decide +kernel
def expo : Nat := 65520
theorem small_pow : ∀ a : Fin 257, 0 < a.val → a.val ^ expo % 65521 = 1 := by decide +kernel
theorem fermat (a : Nat) : 0 < a → a < 65521 → a ^ expo % 65521 = 1 := by
 induction a using Nat.strongRecOn with
 | ind a ih =>
  intro h0 h1
  by_cases hs : a < 257
  ·exact small_pow ⟨a, hs⟩ h0
  ·have e := Nat.div_add_mod 65521 a
   have hr : 65521 % a < a := Nat.mod_lt _ h0
   have hq : 65521 / a < 256 := Nat.div_lt_of_lt_mul (by omega)
   have hq0 : 0 < 65521 / a := Nat.div_pos (by omega) h0
   have hr0 : 0 < 65521 % a := by
    rcases Nat.eq_zero_or_pos (65521 % a) with hz | hz
    ·rw [hz] at e
     by_cases hq1 : 65521 / a = 1
     ·rw [hq1] at e; omega
     ·have hd : 65521 / a ∣ 65521 := ⟨a, by rw [Nat.mul_comm]; omega⟩
      exact absurd (Nat.mod_eq_zero_of_dvd hd) (small_div ⟨65521 / a, by omega⟩ (by show 1 < 65521 / a; omega))
    ·exact hz
   have ir := ih _ hr hr0 (by omega)
   have iq := ih _ (show 65521 / a < a by omega) hq0 (by omega)
   generalize 65521 % a = r at *
   generalize 65521 / a = q at *
   have h2 : (a * q) ^ 2 % 65521 = r ^ 2 % 65521 := by
    have e2 : ((a * q : Nat) : Int) = 65521 - (r : Int) := by
     have : ((a * q + r : Nat) : Int) = 65521 := by rw [e]; rfl
     push_cast at this ⊢; omega
    have e3 : (((a * q) ^ 2 : Nat) : Int) = ((r ^ 2 : Nat) : Int) + 65521 * (65521 - 2 * (r : Int)) := by
     push_cast at e2 ⊢
     rw [e2]; grind
    have e4 : (((a * q) ^ 2 : Nat) : Int) % 65521 = ((r ^ 2 : Nat) : Int) % 65521 := by rw [e3, Int.add_mul_emod_self_left]
    omega
   have h3 : (a * q) ^ expo % 65521 = 1 := by
    obtain ⟨m, hm⟩ : ∃ m, expo = 2 * m := ⟨32760, rfl⟩
    rw [hm] at ir ⊢
    rw [Nat.pow_mul, Nat.pow_mod, h2, ← Nat.pow_mod, ← Nat.pow_mul]
    exact ir
   rw [Nat.mul_pow, Nat.mul_mod, iq, Nat.mul_one, Nat.mod_mod] at h3
   exact h3
abbrev Fp := Fin 65521
def toF (x : Int) : Fp := ⟨(x % 65521).toNat, by omega⟩
theorem toF_val (x : Int) : ((toF x).val : Int) = x % 65521 := by simp only [toF]; omega
theorem fp_ext {a b : Fp} (h : (a.val : Int) = b.val) : a = b := Fin.ext (by omega)
theorem toF_add (x y : Int) : toF (x + y) = toF x + toF y := by
 apply fp_ext
 have h1 := toF_val x; have h2 := toF_val y
 rw [toF_val, Fin.val_add, Int.natCast_emod, Int.natCast_add, h1, h2]
 exact Int.add_emod x y 65521
theorem toF_mul (x y : Int) : toF (x * y) = toF x * toF y := by
 apply fp_ext
 rw [toF_val, Fin.val_mul, Int.natCast_emod, Int.natCast_mul, toF_val, toF_val]
 exact Int.mul_emod x y 65521
theorem toF_emod (x : Int) : toF (x % 65521) = toF x := by
 apply fp_ext
 rw [toF_val, toF_val, Int.emod_emod_of_dvd _ (Int.dvd_refl _)]
theorem toF_zero : toF 0 = 0 := rfl
theorem toF_one : toF 1 = 1 := rfl
theorem toF_p : toF 65521 = 0 := rfl
theorem toF_neg (x : Int) : toF (-x) = - toF x := by
 have h : toF (-x) + toF x = 0 := by rw [← toF_add, Int.add_left_neg, toF_zero]
 grind
theorem toF_sub (x y : Int) : toF (x - y) = toF x - toF y := by
 rw [Int.sub_eq_add_neg, toF_add, toF_neg]; grind
theorem toF_inj {x y : Int} (hx : 0 ≤ x ∧ x < 65521) (hy : 0 ≤ y ∧ y < 65521) (h : toF x = toF y) : x = y := by
 have h1 := toF_val x; have h2 := toF_val y
 rw [h] at h1; omega
theorem toF_eq_zero {x : Int} (hx : 0 ≤ x ∧ x < 65521) : toF x = 0 ↔ x = 0 :=
 ⟨fun h => toF_inj hx (by decide) (h.trans toF_zero.symm), fun h => by rw [h, toF_zero]⟩
def inv (a : Fp) : Fp := toF (invN (a.val : Int))
theorem mul_inv {a : Fp} (h : a ≠ 0) : a * inv a = 1 := by
 have h0 : 0 < a.val := by
  rcases Nat.eq_zero_or_pos a.val with e | e
  ·exact absurd (Fin.ext e) h
  ·exact e
 have hf := fermat a.val h0 a.isLt
 apply Fin.ext
 rw [Fin.val_mul]
 have e : (inv a).val = a.val ^ 65519 % 65521 := by
  have := toF_val (invN (a.val : Int))
  rw [invN, Int.toNat_natCast] at this
  simp only [inv, invN, Int.toNat_natCast]
  omega
 obtain ⟨k, hk, hk2⟩ : ∃ k, k = 65519 ∧ expo = k + 1 := ⟨65519, rfl, rfl⟩
 rw [← hk] at e
 rw [hk2] at hf
 rw [e, Nat.mul_mod_mod, ← Nat.pow_succ', hf]; rfl
theorem inv_mul {a : Fp} (h : a ≠ 0) : inv a * a = 1 := by rw [← mul_inv h]; grind
theorem toF_inv {x : Int} (hx : 0 ≤ x ∧ x < 65521) : toF (invN x) = inv (toF x) := by
 have e : ((toF x).val : Int) = x := by rw [toF_val]; omega
 rw [inv, e]
theorem mul_zero_cases {a b : Fp} (h : a * b = 0) : a = 0 ∨ b = 0 := by
 by_cases ha : a = 0
 ·exact Or.inl ha
 ·have := inv_mul ha
  exact Or.inr (by grind)
theorem one_ne_zero : (1 : Fp) ≠ 0 := by decide
end Go.Proofs.YtlpldfocljnpnaaDoor
namespace Go.Proofs.YtlpldfocljnpnaaDoor
def S : Nat → (Nat → Fp) → Fp
 | 0, _ => 0
 | n + 1, f => S n f + f n
theorem S_congr {n : Nat} {f g : Nat → Fp} (h : ∀ i, i < n → f i = g i) : S n f = S n g := by
 induction n with
 | zero => rfl
 | succ n ih => rw [S, S, ih (fun i hi => h i (by omega)), h n (by omega)]
theorem S_zero {n : Nat} {f : Nat → Fp} (h : ∀ i, i < n → f i = 0) : S n f = 0 := by
 induction n with
 | zero => rfl
 | succ n ih => rw [S, ih (fun i hi => h i (by omega)), h n (by omega)]; grind
theorem S_add (n : Nat) (f g : Nat → Fp) : S n (fun i => f i + g i) = S n f + S n g := by
 induction n with
 | zero => simp only [S]; grind
 | succ n ih => rw [S, S, S, ih]; grind
theorem S_mul (n : Nat) (c : Fp) (f : Nat → Fp) : S n (fun i => c * f i) = c * S n f := by
 induction n with
 | zero => simp only [S]; grind
 | succ n ih => rw [S, S, ih]; grind
theorem S_mul' (n : Nat) (c : Fp) (f : Nat → Fp) : S n (fun i => f i * c) = S n f * c := by
 induction n with
 | zero => simp only [S]; grind
 | succ n ih => rw [S, S, ih]; grind
theorem S_sub (n : Nat) (f g : Nat → Fp) : S n (fun i => f i - g i) = S n f - S n g := by
 induction n with
 | zero => simp only [S]; grind
 | succ n ih => rw [S, S, S, ih]; grind
theorem S_one {n k : Nat} {f : Nat → Fp} (hk : k < n) (h : ∀ i, i < n → i ≠ k → f i = 0) : S n f = f k := by
 induction n with
 | zero => omega
 | succ n ih =>
  rw [S]
  by_cases e : k = n
  ·subst e
   rw [S_zero (fun i hi => h i (by omega) (by omega))]; grind
  ·rw [ih (by omega) (fun i hi hn => h i (by omega) hn), h n (by omega) (by omega)]; grind
theorem S_swap (n m : Nat) (f : Nat → Nat → Fp) : S n (fun i => S m (f i)) = S m (fun k => S n (fun i => f i k)) := by
 induction n with
 | zero => exact (S_zero (fun _ _ => rfl)).symm
 | succ n ih => rw [S, ih, ← S_add]; rfl
theorem S_split (n k : Nat) (f : Nat → Fp) : S (n + k) f = S n f + S k (fun i => f (n + i)) := by
 induction k with
 | zero => simp only [S]; grind
 | succ k ih => rw [← Nat.add_assoc, S, S, ih]; grind
theorem S_first (n : Nat) (f : Nat → Fp) : S (n + 1) f = f 0 + S n (fun i => f (i + 1)) := by
 rw [Nat.add_comm n 1, S_split]
 simp only [S, Nat.add_comm 1]; grind
theorem toF_psum (f : Nat → Int) (n : Nat) : toF (psum f n) = S n (fun i => toF (f i)) := by
 induction n with
 | zero => rfl
 | succ n ih => rw [psum, toF_add, ih]; rfl
theorem depend (k : Nat) : ∀ (L : List Nat) (C : Nat → Nat → Fp), L.length < k → ∃ x : Nat → Fp, (∃ i, i < k ∧ x i ≠ 0) ∧ ∀ j, j ∈ L → S k (fun i => x i * C i j) = 0 := by
 induction k with
 | zero => intro L C h; omega
 | succ k ih =>
  intro L C h
  by_cases hz : ∀ j, j ∈ L → C k j = 0
  ·refine ⟨fun i => if i = k then 1 else 0, ⟨k, by omega, by simp⟩, fun j hj => ?_⟩
   rw [S_one (k := k) (by omega) (fun i _ hn => by simp only [hn, if_false]; grind)]
   simp only [if_true, hz j hj]; grind
  ·have hz' : ∃ j, j ∈ L ∧ C k j ≠ 0 := Classical.byContradiction fun hn => hz fun j hj => Classical.byContradiction fun hc => hn ⟨j, hj, hc⟩
   obtain ⟨j0, hj0, hc⟩ := hz'
   obtain ⟨x, ⟨i, hi, hxi⟩, hx⟩ := ih (L.erase j0) (fun i j => C i j - C i j0 * inv (C k j0) * C k j) (by rw [List.length_erase_of_mem hj0]; have := List.length_pos_of_mem hj0; omega)
   have hm := inv_mul hc
   refine ⟨fun i => if i < k then x i else - S k (fun i => x i * C i j0) * inv (C k j0), ⟨i, by omega, by simp [hi, hxi]⟩, fun j hj => ?_⟩
   have e : S (k + 1) (fun i => (if i < k then x i else - S k (fun i => x i * C i j0) * inv (C k j0)) * C i j) = S k (fun i => x i * (C i j - C i j0 * inv (C k j0) * C k j)) := by
    rw [S, if_neg (Nat.lt_irrefl k), S_congr (g := fun i => x i * C i j) (fun i hi => by rw [if_pos hi])]
    have e2 : S k (fun i => x i * (C i j - C i j0 * inv (C k j0) * C k j)) = S k (fun i => x i * C i j - x i * C i j0 * (inv (C k j0) * C k j)) := S_congr fun i _ => by grind
    rw [e2, S_sub, S_mul']; grind
   show S (k + 1) (fun i => (if i < k then x i else - S k (fun i => x i * C i j0) * inv (C k j0)) * C i j) = 0
   rw [e]
   by_cases hjj : j = j0
   ·subst hjj
    exact S_zero fun i _ => by grind
   ·exact hx j ((List.mem_erase_of_ne hjj).2 hj)
end Go.Proofs.YtlpldfocljnpnaaDoor
namespace Go.Proofs.YtlpldfocljnpnaaDoor
abbrev Mx := Nat → Nat → Fp
def upd (A : Mx) (i : Nat) (r : Nat → Fp) : Mx := fun a b => if a = i then r b else A a b
def minor (A : Mx) (i : Nat) : Mx := fun a b => A (if a < i then a else a + 1) (b + 1)
def sgn (i : Nat) : Fp := if i % 2 = 0 then 1 else -1
def D : Nat → Mx → Fp
 | 0, _ => 1
 | n + 1, A => S (n + 1) (fun i => sgn i * A i 0 * D n (minor A i))
structure Alt (n : Nat) (f : Mx → Fp) : Prop where
 scale : ∀ (A : Mx) (i : Nat) (c : Fp), i < n → f (upd A i (fun k => c * A i k)) = c * f A
 addm : ∀ (A : Mx) (i j : Nat) (c : Fp), i < n → j < n → i ≠ j → f (upd A i (fun k => A i k + c * A j k)) = f A
 congr : ∀ (A B : Mx), (∀ i k, i < n → k < n → A i k = B i k) → f A = f B
def one : Mx := fun i k => if i = k then 1 else 0
variable {n : Nat} {f : Mx → Fp}
theorem Alt.zero (hf : Alt n f) (A : Mx) {i : Nat} (hi : i < n) (h : ∀ k, k < n → A i k = 0) : f A = 0 := by
 have h2 := hf.scale A i 0 hi
 rw [hf.congr (upd A i fun k => 0 * A i k) A (fun a b _ hb => by unfold upd; split; rename_i e; rw [e, h b hb]; grind; rfl)] at h2
 grind
theorem Alt.swap (hf : Alt n f) (A : Mx) {i j : Nat} (hi : i < n) (hj : j < n) (hij : i ≠ j) : f (upd (upd A i (A j)) j (A i)) = - f A := by
 have h1 := hf.addm A i j 1 hi hj hij
 generalize hB : upd A i (fun k => A i k + 1 * A j k) = B at h1
 have h2 := hf.addm B j i (-1) hj hi (fun e => hij e.symm)
 generalize hC : upd B j (fun k => B j k + -1 * B i k) = C at h2
 have h3 := hf.addm C i j 1 hi hj hij
 generalize hE : upd C i (fun k => C i k + 1 * C j k) = E at h3
 have h4 := hf.scale E j (-1) hj
 have e : upd E j (fun k => -1 * E j k) = upd (upd A i (A j)) j (A i) := by
  subst hE; subst hC; subst hB
  funext a b
  by_cases h1 : a = j
  ·subst h1; simp only [upd, if_true, hij, if_false]; grind
  ·by_cases h2 : a = i
   ·subst h2; simp only [upd, if_true]; grind
   ·simp only [upd, h1, h2, if_false]
 rw [← e, h4, h3, h2, h1]; grind
theorem Alt.clear (hf : Alt n f) (A : Mx) (c : Nat → Fp) {r : Nat} (hr : r < n) : ∀ j, j ≤ n → f (fun i k => if i ≠ r ∧ i < j then A i k + c i * A r k else A i k) = f A
 | 0, _ => congrArg f (by funext a b; simp)
 | j + 1, h => by
  rw [← Alt.clear hf A c hr j (by omega)]
  by_cases e : j = r
  ·subst e
   refine congrArg f ?_
   funext a b
   by_cases h1 : a ≠ j ∧ a < j
   ·rw [if_pos h1, if_pos (by omega)]
   ·rw [if_neg h1, if_neg (by omega)]
  ·rw [← hf.addm (fun i k => if i ≠ r ∧ i < j then A i k + c i * A r k else A i k) j r (c j) (by omega) hr e]
   refine congrArg f ?_
   funext a b
   unfold upd
   by_cases h1 : a = j
   ·subst h1
    simp only [if_true]
    rw [if_pos (by omega), if_neg (by omega), if_neg (by omega)]
   ·simp only []
    rw [if_neg h1]
    by_cases h2 : a ≠ r ∧ a < j
    ·rw [if_pos h2, if_pos (by omega)]
    ·rw [if_neg h2, if_neg (by omega)]
end Go.Proofs.YtlpldfocljnpnaaDoor
namespace Go.Proofs.YtlpldfocljnpnaaDoor
open Go.RowKit
theorem i64_and_one {b : Int} (h0 : 0 ≤ b) (h1 : b ≤ 9223372036854775807) : bits BinOp.and IntKind.i64 b 1 = b % 2 := by
 have two63 : (2 : Int) ^ 63 = 9223372036854775808 := by decide
 have h := bits_mask .i64 63 (by decide) (fun n h0 h1 => by rw [two63] at h1; rw [IntKind.wrap_i64]; omega) 1 (by decide) b h0 (by rw [two63]; omega)
 have e : ((2 : Int) ^ 1 - 1) = 1 := by decide
 rw [e] at h
 exact h
theorem mul_bd {a b : Int} (ha : 0 ≤ a) (ha2 : a < 65521) (hb : 0 ≤ b) (hb2 : b < 65521) : 0 ≤ a * b ∧ a * b ≤ 4292870400 := by
 have h1 : 0 ≤ a * b := Int.mul_nonneg ha hb
 have h2 : a * b ≤ 65520 * 65520 := Int.mul_le_mul (by omega) (by omega) hb (by omega)
 exact ⟨h1, by omega⟩
theorem pow_two_ (a : Int) : a ^ 2 = a * a := by rw [Int.pow_succ, Int.pow_succ]; simp
theorem emod_pow_ (a m : Int) (n : Nat) : (a % m) ^ n % m = a ^ n % m := by
 induction n with
 | zero => simp
 | succ n ih => rw [Int.pow_succ, Int.pow_succ, Int.mul_emod, ih, Int.emod_emod_of_dvd _ (Int.dvd_refl _), ← Int.mul_emod]
theorem pow_even (c a b : Int) (hb : 0 < b) (h2 : b % 2 = 0) : c * (a * a % 65521) ^ (b / 2).toNat % 65521 = c * a ^ b.toNat % 65521 := by
 have e : b.toNat = 2 * (b / 2).toNat := by omega
 rw [e, Int.pow_mul, Int.mul_emod, emod_pow_, ← Int.mul_emod, pow_two_]
theorem pow_odd (c a b : Int) (hb : 0 < b) (h2 : b % 2 = 1) : c * a % 65521 * (a * a % 65521) ^ (b / 2).toNat % 65521 = c * a ^ b.toNat % 65521 := by
 have e : b.toNat = 2 * (b / 2).toNat + 1 := by omega
 rw [e, Int.pow_succ, Int.pow_mul, Int.mul_emod, emod_pow_, Int.emod_emod_of_dvd _ (Int.dvd_refl _), ← Int.mul_emod, pow_two_]
 congr 1; simp only [Int.mul_assoc, Int.mul_comm]
end Go.Proofs.YtlpldfocljnpnaaDoor
namespace Go.Proofs.YtlpldfocljnpnaaDoor
open Go.RowKit
def RdV (w : World) (v : Value) (vs : List Value) : Prop :=
 ∃ (A : Option Addr) (c : Nat), v = .slice A vs.length c ∧ vs.length ≤ c ∧ vs.length ≤ 140737488355328 ∧
  (0 < vs.length → ∃ b off, A = some ⟨b, off, none⟩ ∧ ∀ j u, vs[j]? = some u → w.cell? ⟨b, off + j, none⟩ = some u)
def ints (xs : List Int) : List Value := xs.map (Value.int .i64)
def RdI (w : World) (v : Value) (xs : List Int) : Prop := RdV w v (ints xs)
def RdM (w : World) (v : Value) (rs : List (List Int)) : Prop :=
 ∃ vs : List Value, RdV w v vs ∧ vs.length = rs.length ∧ ∀ (j : Nat) (r : List Int) (u : Value), rs[j]? = some r → vs[j]? = some u → RdI w u r
theorem ints_len (xs : List Int) : (ints xs).length = xs.length := by simp [ints]
theorem ints_get (xs : List Int) (j : Nat) : (ints xs)[j]? = (xs[j]?).map (Value.int .i64) := by simp [ints]
theorem ints_append (xs ys : List Int) : ints (xs ++ ys) = ints xs ++ ints ys := by simp [ints]
theorem RdV.below {w w' : World} {v : Value} {vs : List Value} (h : RdV w v vs) {B : Nat} (hb : Below B w w') (hB : w.heap.size ≤ B) : RdV w' v vs := by
 obtain ⟨A, c, e, h1, h2, h3⟩ := h
 refine ⟨A, c, e, h1, h2, fun hp => ?_⟩
 obtain ⟨b, off, e2, h4⟩ := h3 hp
 exact ⟨b, off, e2, fun j u hj => (hb.cell (p := ⟨b, off + j, none⟩) (by have := World.block_lt_of_cell? w _ (h4 j u hj); simp at this; simp; omega)).trans (h4 j u hj)⟩
theorem RdI.below {w w' : World} {v : Value} {xs : List Int} (h : RdI w v xs) {B : Nat} (hb : Below B w w') (hB : w.heap.size ≤ B) : RdI w' v xs := RdV.below h hb hB
theorem RdM.below {w w' : World} {v : Value} {rs : List (List Int)} (h : RdM w v rs) {B : Nat} (hb : Below B w w') (hB : w.heap.size ≤ B) : RdM w' v rs := by
 obtain ⟨vs, h1, h2, h3⟩ := h
 exact ⟨vs, h1.below hb hB, h2, fun j r u hr hu => (h3 j r u hr hu).below hb hB⟩
theorem RdI.open_ {w : World} {v : Value} {xs : List Int} (h : RdI w v xs) : ∃ (A : Option Addr) (c : Nat), v = .slice A xs.length c ∧ xs.length ≤ c ∧ xs.length ≤ 140737488355328 ∧
  (∀ k, k < xs.length → ∃ b off, A = some ⟨b, off, none⟩ ∧ w.cell? ⟨b, off + k, none⟩ = some (.int .i64 (xs.getD k 0))) := by
 obtain ⟨A, c, e, h1, h2, h3⟩ := h
 rw [ints_len] at *
 refine ⟨A, c, e, h1, h2, fun k hk => ?_⟩
 obtain ⟨b, off, e2, h4⟩ := h3 (by omega)
 exact ⟨b, off, e2, h4 k _ (by rw [ints_get, List.getElem?_eq_getElem hk]; simp [List.getD_eq_getElem?_getD, hk])⟩
theorem RdM.open_ {w : World} {v : Value} {rs : List (List Int)} (h : RdM w v rs) : ∃ (A : Option Addr) (c : Nat), v = .slice A rs.length c ∧ rs.length ≤ c ∧ rs.length ≤ 140737488355328 ∧
  (∀ k, k < rs.length → ∃ b off u, A = some ⟨b, off, none⟩ ∧ w.cell? ⟨b, off + k, none⟩ = some u ∧ RdI w u (rs.getD k [])) := by
 obtain ⟨vs, ⟨A, c, e, h1, h2, h3⟩, hl, h4⟩ := h
 refine ⟨A, c, hl ▸ e, by omega, by omega, fun k hk => ?_⟩
 obtain ⟨b, off, e2, h5⟩ := h3 (by omega)
 have hu : vs[k]? = some vs[k] := List.getElem?_eq_getElem (by omega)
 exact ⟨b, off, vs[k], e2, h5 k _ hu, h4 k _ _ (by rw [List.getD_eq_getElem?_getD, List.getElem?_eq_getElem hk]; simp) hu⟩
theorem RdI.cell_ {w : World} {v : Value} {xs : List Int} (h : RdI w v xs) : ∃ (A : Option Addr) (c : Nat), v = .slice A xs.length c ∧ xs.length ≤ c ∧ xs.length ≤ 140737488355328 := by
 obtain ⟨A, c, e, h1, h2, _⟩ := h.open_
 exact ⟨A, c, e, h1, h2⟩
theorem cell_new (w : World) (v : Value) (t : TypeId) : (w.alloc (.cells #[v] t)).cell? ⟨w.heap.size, 0, none⟩ = some v := by
 simp only [World.cell?, heap_alloc_new]; rfl
end Go.Proofs.YtlpldfocljnpnaaDoor
namespace Go.Proofs.YtlpldfocljnpnaaDoor
open Go.RowKit
theorem infoI : (Tryd.prog.info? 3).map (fun i => (i.zero, i.size, i.bytes)) = some (some (.int .i64 0), 1, 8) := by kernel_rfl
theorem infoR : (Tryd.prog.info? 22).map (fun i => (i.zero, i.size, i.bytes)) = some (some (.slice none 0 0), 1, 24) := by kernel_rfl
theorem Below.then_ {w W W2 : World} (h : Below w.heap.size w W) (h2 : Below W.heap.size W W2) : Below w.heap.size w W2 := h.trans (h2.mono h.size)
theorem grown_of_below {w w1 : World} (h : Below w.heap.size w w1) (row : Option Nat) : w.grownBy w1 row := ⟨h.os, h.tape, h.output, h.size, fun i hi _ => h.block i hi⟩
theorem own_below {w w1 : World} {base : Nat} {e : TypeId} {size : Nat} {v : Value} {n : Nat} {xs : List Value} (h : w.ownsRow base e size v n xs) (hb : Below w.heap.size w w1) : w1.ownsRow base e size v n xs :=
 h.kept (grown_of_below hb none) (by cases v.ownBlock <;> simp)
theorem own_base {w : World} {base base' : Nat} {e : TypeId} {size : Nat} {v : Value} {n : Nat} {xs : List Value} (h : w.ownsRow base e size v n xs) (hb : base' ≤ base) : w.ownsRow base' e size v n xs := by
 refine ⟨h.1, ?_⟩
 rcases h.2 with h | ⟨g, cap, cur, h1, h2, h3⟩
 ·exact .inl h
 ·exact .inr ⟨g, cap, cur, h1, Nat.le_trans hb h2, h3⟩
theorem own_ne {w : World} {b b' : Nat} {e e' : TypeId} {s s' n n' : Nat} {v v' : Value} {xs xs' : List Value} (h : w.ownsRow b e s v n xs) (h' : w.ownsRow b' e' s' v' n' xs') (hne : e ≠ e') : v.ownBlock = none ∨ v.ownBlock ≠ v'.ownBlock := by
 rcases h.2 with ⟨rfl, _⟩ | ⟨g, cap, cur, rfl, _, hh, _⟩
 ·exact .inl rfl
 ·refine .inr fun hk => ?_
  rcases h'.2 with ⟨rfl, _⟩ | ⟨g', cap', cur', rfl, _, hh', _⟩
  ·simp [Value.ownBlock] at hk
  ·have : g = g' := by simpa [Value.ownBlock] using hk
   subst this
   rw [hh] at hh'
   injection hh' with hh'
   injection hh' with _ ht
   exact hne ht
theorem own_RdV {w : World} {base : Nat} {e : TypeId} {v : Value} {n : Nat} {vs : List Value} (h : w.ownsRow base e 1 v n vs) (hn : n ≤ 140737488355328) : RdV w v vs := by
 have hl : vs.length = n := by have := h.1; omega
 rcases h.2 with ⟨rfl, rfl⟩ | ⟨g, cap, cur, rfl, hb, hg, hc, _⟩
 ·exact ⟨none, 0, by rw [hl], by omega, by omega, fun hp => by omega⟩
 ·refine ⟨_, cap, by rw [hl], by omega, by omega, fun hp => ⟨g, 0, rfl, fun j u hj => ?_⟩⟩
  rw [Nat.zero_add, h.cellAt j (by have := (List.getElem?_eq_some_iff.1 hj).1; omega)]
  exact hj
def OwnI (w : World) (base : Nat) (v : Value) (xs : List Int) : Prop := w.ownsRow base 3 1 v xs.length (ints xs)
theorem OwnI.rd {w : World} {base : Nat} {v : Value} {xs : List Int} (h : OwnI w base v xs) (hn : xs.length ≤ 140737488355328) : RdI w v xs := own_RdV h hn
theorem OwnI.below {w w1 : World} {base : Nat} {v : Value} {xs : List Int} (h : OwnI w base v xs) (hb : Below w.heap.size w w1) : OwnI w1 base v xs := own_below h hb
theorem OwnI.base {w : World} {base base' : Nat} {v : Value} {xs : List Int} (h : OwnI w base v xs) (hb : base' ≤ base) : OwnI w base' v xs := own_base h hb
def OwnM (w : World) (base : Nat) (v : Value) (rs : List (List Int)) : Prop :=
 ∃ vs : List Value, w.ownsRow base 22 1 v rs.length vs ∧ (∀ (j : Nat) (r : List Int) (u : Value), rs[j]? = some r → vs[j]? = some u → OwnI w base u r) ∧
  (∀ (i j : Nat) (u u' : Value), i ≠ j → vs[i]? = some u → vs[j]? = some u' → u.ownBlock = none ∨ u.ownBlock ≠ u'.ownBlock)
theorem OwnM.below {w w1 : World} {base : Nat} {v : Value} {rs : List (List Int)} (h : OwnM w base v rs) (hb : Below w.heap.size w w1) : OwnM w1 base v rs := by
 obtain ⟨vs, h1, h2, h3⟩ := h
 exact ⟨vs, own_below h1 hb, fun j r u hr hu => (h2 j r u hr hu).below hb, h3⟩
theorem OwnM.base {w : World} {base base' : Nat} {v : Value} {rs : List (List Int)} (h : OwnM w base v rs) (hb : base' ≤ base) : OwnM w base' v rs := by
 obtain ⟨vs, h1, h2, h3⟩ := h
 exact ⟨vs, own_base h1 hb, fun j r u hr hu => (h2 j r u hr hu).base hb, h3⟩
theorem OwnM.rd {w : World} {base : Nat} {v : Value} {rs : List (List Int)} (h : OwnM w base v rs) (hn : rs.length ≤ 140737488355328) (hm : ∀ r ∈ rs, r.length ≤ 140737488355328) : RdM w v rs := by
 obtain ⟨vs, h1, h2, h3⟩ := h
 exact ⟨vs, own_RdV h1 hn, by have := h1.1; omega, fun j r u hr hu => (h2 j r u hr hu).rd (hm r (List.mem_of_getElem? hr))⟩
theorem OwnM.row {w : World} {base : Nat} {v : Value} {rs : List (List Int)} (h : OwnM w base v rs) {i : Nat} {r : List Int} (hi : rs[i]? = some r) : ∃ g c u, v = .slice (some ⟨g, 0, none⟩) rs.length c ∧ base ≤ g ∧ g < w.heap.size ∧ w.cell? ⟨g, i, none⟩ = some u ∧ w.frozen? ⟨g, i, none⟩ = false ∧ OwnI w base u r ∧ u.ownBlock ≠ some g := by
 obtain ⟨vs, h1, h2, h3⟩ := h
 have hlt := (List.getElem?_eq_some_iff.1 hi).1
 obtain ⟨g, c, rfl, hb, hg⟩ := h1.form (by omega)
 have hl : vs.length = rs.length := by have := h1.1; omega
 have hu : vs[i]? = some vs[i] := List.getElem?_eq_getElem (by omega)
 have ho := h2 i r _ hi hu
 refine ⟨g, c, vs[i], rfl, hb, hg, by rw [h1.cellAt i (by omega)]; exact hu, h1.frozenAt i, ho, fun e => ?_⟩
 rcases own_ne ho h1 (by decide) with h | h
 ·rw [h] at e; cases e
 ·exact h e
theorem OwnM.row' {w : World} {base g n c : Nat} {rs : List (List Int)} (h : OwnM w base (.slice (some ⟨g, 0, none⟩) n c) rs) {i : Nat} {r : List Int} (hi : rs[i]? = some r) : base ≤ g ∧ g < w.heap.size ∧ ∃ u, w.cell? ⟨g, i, none⟩ = some u ∧ w.frozen? ⟨g, i, none⟩ = false ∧ OwnI w base u r ∧ u.ownBlock ≠ some g := by
 obtain ⟨g', c', u, e, h1, h2, h3, h4, h5, h6⟩ := h.row hi
 simp only [Value.slice.injEq, Option.some.injEq, Addr.mk.injEq, and_true] at e
 obtain ⟨rfl, _, _⟩ := e
 exact ⟨h1, h2, u, h3, h4, h5, h6⟩
theorem OwnM.upd {w w1 : World} {base g c n : Nat} {rs : List (List Int)} (h : OwnM w base (.slice (some ⟨g, 0, none⟩) n c) rs) {i : Nat} {r r' : List Int} {u v' : Value} (hi : rs[i]? = some r)
  (hc : w.cell? ⟨g, i, none⟩ = some u) (hg : w.grownBy w1 u.ownBlock) (ho : OwnI w1 base v' r') (hn : v'.ownBlock = none ∨ v'.ownBlock = u.ownBlock ∨ ∃ k, v'.ownBlock = some k ∧ w.heap.size ≤ k) :
  OwnM (w1.setCell ⟨g, i, none⟩ v') base (.slice (some ⟨g, 0, none⟩) n c) (rs.set i r') := by
 obtain ⟨vs, h1, h2, h3⟩ := h
 obtain rfl : rs.length = n := by
  rcases h1.2 with ⟨e, _⟩ | ⟨_, _, _, e, _⟩
  ·simp at e
  ·simp only [Value.slice.injEq] at e; exact e.2.1.symm
 have hlt := (List.getElem?_eq_some_iff.1 hi).1
 have hl : vs.length = rs.length := by have := h1.1; omega
 have hu : vs[i]? = some u := by rw [← h1.cellAt i (by omega)]; exact hc
 have hou := h2 i r u hi hu
 have hne := own_ne h1 hou (by decide)
 have h1' := (h1.kept hg hne).stored i v'
 have hgb : (Value.slice (some ⟨g, 0, none⟩) rs.length c).ownBlock = some g := rfl
 have hv' : v'.ownBlock ≠ some g := by
  intro e
  rcases own_ne ho (h1.kept hg hne) (by decide) with h | h
  ·rw [h] at e; cases e
  ·exact h e
 refine ⟨vs.set i v', by rw [List.length_set]; exact h1'.1, fun j s x hs hx => ?_, fun a b x y hab hx hy => ?_⟩
 ·by_cases hij : i = j
  ·subst hij
   rw [List.getElem?_set_self hlt] at hs
   rw [List.getElem?_set_self (by omega)] at hx
   cases hs; cases hx
   exact ho.kept h1'.2 (.inr hv')
  ·rw [List.getElem?_set_ne hij] at hs hx
   have ho2 := (h2 j s x hs hx)
   have hne2 := h3 j i x u (Ne.symm hij) hx hu
   have ho3 := ho2.kept hg hne2
   exact ho3.kept h1'.2 (by
    rcases own_ne ho3 (h1.kept hg hne) (by decide) with h | h
    ·exact .inl h
    ·exact .inr h)
 ·have key : ∀ j x, i ≠ j → vs[j]? = some x → x.ownBlock = none ∨ x.ownBlock ≠ v'.ownBlock := by
   intro j x hij hx
   rcases hn with e | e | ⟨k, e, hk⟩
   ·rw [e]
    by_cases hx0 : x.ownBlock = none
    ·exact .inl hx0
    ·exact .inr hx0
   ·rw [e]; exact h3 j i x u (Ne.symm hij) hx hu
   ·rw [e]
    have hj : j < rs.length := by have := (List.getElem?_eq_some_iff.1 hx).1; omega
    have hox := h2 j _ x (List.getElem?_eq_getElem hj) hx
    refine .inr fun e2 => ?_
    have := (hox.lt k e2).2
    omega
  by_cases ha : i = a
  ·subst ha
   rw [List.getElem?_set_self (by omega)] at hx
   rw [List.getElem?_set_ne hab] at hy
   cases hx
   rcases key b y hab hy with h | h
   ·rw [h]
    by_cases hx : v'.ownBlock = none
    ·exact .inl hx
    ·exact .inr hx
   ·exact .inr (Ne.symm h)
  ·by_cases hb : i = b
   ·subst hb
    rw [List.getElem?_set_self (by omega)] at hy
    rw [List.getElem?_set_ne ha] at hx
    cases hy
    exact key a x ha hx
   ·rw [List.getElem?_set_ne ha] at hx
    rw [List.getElem?_set_ne hb] at hy
    exact h3 a b x y hab hx hy
theorem OwnM_made (w : World) (base n : Nat) (hb : base ≤ w.heap.size) (hn : n ≤ maxLen) : OwnM (w.alloc (.cells (madeCells #[.slice none 0 0] n) 22)) base (.slice (some ⟨w.heap.size, 0, none⟩) n n) (List.replicate n []) := by
 have hr := World.ownsRow_lit (base := base) (e := 22) (size := 1) w (madeCells #[.slice none 0 0] n) n hb hn (by rw [size_madeCells]; omega)
 rw [toList_madeCells_one] at hr
 refine ⟨List.replicate n (.slice none 0 0), by simpa using hr, fun j r u h1 h2 => ?_, fun i j u u' _ h1 h2 => .inl ?_⟩
 ·rw [List.getElem?_replicate] at h1 h2
  split at h1
  ·cases h1
   rw [if_pos (by assumption)] at h2
   cases h2
   exact World.ownsRow_nil _ _ _ _
  ·cases h1
 ·rw [List.getElem?_replicate] at h1
  split at h1
  ·cases h1; rfl
  ·cases h1
end Go.Proofs.YtlpldfocljnpnaaDoor
namespace Go.Proofs.YtlpldfocljnpnaaDoor
open Go.RowKit
structure KeptBut (vs : List Value) (w w' : World) : Prop where
 os : w'.os = w.os
 tape : w'.tape = w.tape
 output : w'.output = w.output
 size : w.heap.size ≤ w'.heap.size
 block : ∀ k, k < w.heap.size → (∀ u ∈ vs, u.ownBlock ≠ some k) → w'.heap[k]? = w.heap[k]?
namespace KeptBut
variable {vs : List Value} {w w' w'' : World}
theorem refl (vs : List Value) (w : World) : KeptBut vs w w := ⟨rfl, rfl, rfl, Nat.le_refl _, fun _ _ _ => rfl⟩
theorem trans (h : KeptBut vs w w') (k : KeptBut vs w' w'') : KeptBut vs w w'' :=
 ⟨k.os.trans h.os, k.tape.trans h.tape, k.output.trans h.output, Nat.le_trans h.size k.size, fun i hi hn => (k.block i (Nat.lt_of_lt_of_le hi h.size) hn).trans (h.block i hi hn)⟩
theorem of_below (h : Below w.heap.size w w') : KeptBut vs w w' := ⟨h.os, h.tape, h.output, h.size, fun k hk _ => h.block k hk⟩
theorem below (h : KeptBut vs w w') {B : Nat} (hB : B ≤ w.heap.size) (hv : ∀ u ∈ vs, ∀ k, u.ownBlock = some k → B ≤ k) : Below B w w' :=
 ⟨h.os, h.tape, h.output, h.size, fun k hk => h.block k (by omega) (fun u hu e => by have := hv u hu k e; omega)⟩
theorem drew (h : KeptBut vs w w') : KeptBut vs w w'.drew := ⟨h.os, h.tape, h.output, h.size, h.block⟩
theorem setCell (h : KeptBut vs w w') {u : Value} (hu : u ∈ vs) {g k : Nat} (hg : u.ownBlock = some g) (x : Value) : KeptBut vs w (w'.setCell ⟨g, k, none⟩ x) :=
 ⟨h.os, h.tape, h.output, by have := h.size; simpa using this, fun i hi hn => (Below.heap_setCell _ _ _ _ (fun e => hn u hu (by rw [hg, e]))).trans (h.block i hi hn)⟩
theorem cell (h : KeptBut vs w w') {a : Addr} {x : Value} (hc : w.cell? a = some x) (hn : ∀ u ∈ vs, u.ownBlock ≠ some a.block) : w'.cell? a = some x :=
 (World.cell?_of_block (h.block a.block (World.block_lt_of_cell? w a hc) hn)).trans hc
theorem frozen (h : KeptBut vs w w') {a : Addr} (ha : a.block < w.heap.size) (hn : ∀ u ∈ vs, u.ownBlock ≠ some a.block) : w'.frozen? a = w.frozen? a :=
 World.frozen?_of_block (h.block a.block ha hn)
theorem grown (h : KeptBut vs w w') {e : Nat} (he : ∀ u ∈ vs, u.ownBlock ≠ some e) : w.heap.size ≤ e ∨ w'.heap[e]? = w.heap[e]? := by
 by_cases hk : e < w.heap.size
 ·exact .inr (h.block e hk he)
 ·exact .inl (by omega)
end KeptBut
structure OwnMv (w : World) (base : Nat) (v : Value) (rs : List (List Int)) (vs : List Value) : Prop where
 outer : w.ownsRow base 22 1 v rs.length vs
 rows : ∀ (j : Nat) (r : List Int) (u : Value), rs[j]? = some r → vs[j]? = some u → OwnI w base u r
 apart : ∀ (i j : Nat) (u u' : Value), i ≠ j → vs[i]? = some u → vs[j]? = some u' → u.ownBlock = none ∨ u.ownBlock ≠ u'.ownBlock
theorem OwnM.v {w : World} {base : Nat} {v : Value} {rs : List (List Int)} (h : OwnM w base v rs) : ∃ vs, OwnMv w base v rs vs := by
 obtain ⟨vs, h1, h2, h3⟩ := h; exact ⟨vs, ⟨h1, h2, h3⟩⟩
namespace OwnMv
variable {w w1 : World} {base : Nat} {v : Value} {rs : List (List Int)} {vs : List Value}
theorem m (h : OwnMv w base v rs vs) : OwnM w base v rs := ⟨vs, h.outer, h.rows, h.apart⟩
theorem len (h : OwnMv w base v rs vs) : vs.length = rs.length := by have := h.outer.1; omega
theorem kept (h : OwnMv w base v rs vs) (hb : Below w.heap.size w w1) : OwnMv w1 base v rs vs :=
 ⟨own_below h.outer hb, fun j r u hr hu => (h.rows j r u hr hu).below hb, h.apart⟩
theorem grownBy (h : OwnMv w base v rs vs) {row : Option Nat} (hg : w.grownBy w1 row) (ho : v.ownBlock = none ∨ v.ownBlock ≠ row) (hr : ∀ u ∈ vs, u.ownBlock = none ∨ u.ownBlock ≠ row) : OwnMv w1 base v rs vs :=
 ⟨h.outer.kept hg ho, fun j r u hj hu => (h.rows j r u hj hu).kept hg (hr u (List.mem_of_getElem? hu)), h.apart⟩
theorem ge (h : OwnMv w base v rs vs) : ∀ u ∈ vs, ∀ k, u.ownBlock = some k → base ≤ k ∧ k < w.heap.size := by
 intro u hu k hk
 obtain ⟨j, hj, rfl⟩ := List.getElem_of_mem hu
 have := h.rows j _ _ (List.getElem?_eq_getElem (by have := h.len; omega)) (List.getElem?_eq_getElem hj)
 exact OwnI.base this (Nat.le_refl _) |>.lt k hk
theorem outer_ne (h : OwnMv w base v rs vs) {g : Nat} (hg : v.ownBlock = some g) : ∀ u ∈ vs, u.ownBlock ≠ some g := by
 intro u hu e
 obtain ⟨j, hj, rfl⟩ := List.getElem_of_mem hu
 have hr := h.rows j _ _ (List.getElem?_eq_getElem (by have := h.len; omega)) (List.getElem?_eq_getElem hj)
 rcases own_ne hr h.outer (by decide) with h1 | h1
 ·rw [h1] at e; cases e
 ·exact h1 (by rw [e, hg])
theorem at_ (h : OwnMv w base v rs vs) {i : Nat} {r : List Int} {u : Value} (hr : rs[i]? = some r) (hu : vs[i]? = some u) : ∃ g c, v = .slice (some ⟨g, 0, none⟩) rs.length c ∧ base ≤ g ∧ g < w.heap.size ∧ w.cell? ⟨g, i, none⟩ = some u ∧ w.frozen? ⟨g, i, none⟩ = false := by
 have hlt := (List.getElem?_eq_some_iff.1 hr).1
 obtain ⟨g, c, rfl, hb, hg⟩ := h.outer.form (by omega)
 exact ⟨g, c, rfl, hb, hg, by rw [h.outer.cellAt i (by omega)]; exact hu, h.outer.frozenAt i⟩
theorem num (h : OwnMv w base v rs vs) {i k : Nat} {r : List Int} {u : Value} (hr : rs[i]? = some r) (hu : vs[i]? = some u) (hk : k < r.length) :
  ∃ g c, u = .slice (some ⟨g, 0, none⟩) r.length c ∧ base ≤ g ∧ g < w.heap.size ∧ w.cell? ⟨g, k, none⟩ = some (.int .i64 (r.getD k 0)) ∧ w.frozen? ⟨g, k, none⟩ = false := by
 have ho := h.rows i r u hr hu
 unfold OwnI at ho
 obtain ⟨g, c, rfl, hb, hg⟩ := ho.form (by omega)
 exact ⟨g, c, rfl, hb, hg, by rw [ho.cellAt k (by omega), ints_get, List.getElem?_eq_getElem hk]; simp [List.getD_eq_getElem?_getD, hk], ho.frozenAt k⟩
theorem put (h : OwnMv w base v rs vs) {i k g c n : Nat} {r : List Int} (hr : rs[i]? = some r) (hu : vs[i]? = some (.slice (some ⟨g, 0, none⟩) n c)) (x : Int) :
  OwnMv (w.setCell ⟨g, k, none⟩ (.int .i64 x)) base v (rs.set i (r.set k x)) vs ∧ KeptBut vs w (w.setCell ⟨g, k, none⟩ (.int .i64 x)) := by
 have hlt := (List.getElem?_eq_some_iff.1 hr).1
 have ho := h.rows i r _ hr hu
 unfold OwnI at ho
 have hn : r.length = n := by
  rcases ho.2 with ⟨e, _⟩ | ⟨_, _, _, e, _⟩
  ·simp at e
  ·simp only [Value.slice.injEq] at e; exact e.2.1.symm
 subst hn
 obtain ⟨hs, hg⟩ := ho.stored k (.int .i64 x)
 have hout : v.ownBlock = none ∨ v.ownBlock ≠ some g := own_ne h.outer ho (by decide)
 refine ⟨⟨by rw [List.length_set]; exact h.outer.kept hg hout, fun j s u hs' hu' => ?_, h.apart⟩, (KeptBut.refl vs w).setCell (List.mem_of_getElem? hu) rfl _⟩
 by_cases hij : i = j
 ·subst hij
  rw [List.getElem?_set_self hlt] at hs'
  rw [hu] at hu'
  cases hs'; cases hu'
  unfold OwnI
  rw [List.length_set]
  have : ints (r.set k x) = (ints r).set k (.int .i64 x) := by simp [ints, List.map_set]
  rw [this]; exact hs
 ·rw [List.getElem?_set_ne hij] at hs'
  exact OwnI.base ((h.rows j s u hs' hu').kept hg (h.apart j i u _ (Ne.symm hij) hu' hu)) (Nat.le_refl _)
theorem swap (h : OwnMv w base v rs vs) {g c n i j : Nat} (hv : v = .slice (some ⟨g, 0, none⟩) n c) {r s : List Int} {u x : Value} (hr : rs[i]? = some r) (hs : rs[j]? = some s) (hu : vs[i]? = some u) (hx : vs[j]? = some x) (hij : i ≠ j) :
  OwnMv ((w.setCell ⟨g, i, none⟩ x).setCell ⟨g, j, none⟩ u) base v ((rs.set i s).set j r) ((vs.set i x).set j u) := by
 subst hv
 obtain rfl : rs.length = n := by
  rcases h.outer.2 with ⟨e, _⟩ | ⟨_, _, _, e, _⟩
  ·simp at e
  ·simp only [Value.slice.injEq] at e; exact e.2.1.symm
 have hi := (List.getElem?_eq_some_iff.1 hr).1
 have hj := (List.getElem?_eq_some_iff.1 hs).1
 have hl := h.len
 obtain ⟨h1, g1⟩ := h.outer.stored i x
 obtain ⟨h2, g2⟩ := h1.stored j u
 have key : ∀ k (y : Value), ((vs.set i x).set j u)[k]? = some y → ∃ k', vs[k']? = some y ∧ ((rs.set i s).set j r)[k]? = rs[k']? ∧ (k = i → k' = j) ∧ (k = j → k' = i) ∧ (k ≠ i → k ≠ j → k' = k) := by
  intro k y hy
  by_cases hkj : j = k
  ·subst hkj
   rw [List.getElem?_set_self (by simp; omega)] at hy
   cases hy
   exact ⟨i, hu, by rw [List.getElem?_set_self (by simp; omega)]; exact hr.symm, fun e => absurd e.symm hij, fun _ => rfl, fun _ h => absurd rfl h⟩
  ·rw [List.getElem?_set_ne hkj] at hy ⊢
   by_cases hki : i = k
   ·subst hki
    rw [List.getElem?_set_self (by omega)] at hy
    cases hy
    exact ⟨j, hx, by rw [List.getElem?_set_self hi]; exact hs.symm, fun _ => rfl, fun e => absurd e.symm hkj, fun h => absurd rfl h⟩
   ·rw [List.getElem?_set_ne hki] at hy ⊢
    exact ⟨k, hy, rfl, fun e => absurd e.symm hki, fun e => absurd e.symm hkj, fun _ _ => rfl⟩
 refine ⟨by simpa using h2, fun k a y ha hy => ?_, fun a b y z hab hy hz => ?_⟩
 ·obtain ⟨k', e1, e2, _⟩ := key k y hy
  rw [e2] at ha
  have ho := h.rows k' a y ha e1
  have hne : y.ownBlock = none ∨ y.ownBlock ≠ some g := own_ne ho h.outer (by decide)
  exact OwnI.base ((World.ownsRow.kept (World.ownsRow.kept ho g1 hne) g2 hne)) (Nat.le_refl _)
 ·obtain ⟨a', e1, _, e3, e4, e5⟩ := key a y hy
  obtain ⟨b', f1, _, f3, f4, f5⟩ := key b z hz
  refine h.apart a' b' y z (fun e => ?_) e1 f1
  subst e
  by_cases ha : a = i
  ·have := e3 ha
   by_cases hb : b = i
   ·omega
   ·by_cases hb2 : b = j
    ·have := f4 hb2; omega
    ·have := f5 hb hb2; omega
  ·by_cases ha2 : a = j
   ·have := e4 ha2
    by_cases hb : b = i
    ·have := f3 hb; omega
    ·by_cases hb2 : b = j
     ·omega
     ·have := f5 hb hb2; omega
   ·have := e5 ha ha2
    by_cases hb : b = i
    ·have := f3 hb; omega
    ·by_cases hb2 : b = j
     ·have := f4 hb2; omega
     ·have := f5 hb hb2; omega
end OwnMv
end Go.Proofs.YtlpldfocljnpnaaDoor
namespace Go.Proofs.YtlpldfocljnpnaaDoor
open Go.RowKit
theorem power_any (n e : Int) (w : World) (hn : 0 ≤ n) (hn2 : n < 65521) (he : 0 ≤ e) (he2 : e ≤ 9223372036854775807) :
  Calls Tryd.prog 141 #[.int .i64 n, .int .i64 e] w fun r w' => r = .returned (.int .i64 (n ^ e.toNat % 65521)) ∧ w = w' := by
 go_enter Tryd.func141, Tryd.ntmps141
 go_wp2
 go_loop [0, 1, 5] (fun x y o => ∃ (a b c : Int), x = .int .i64 a ∧ y = .int .i64 b ∧ o = .int .i64 c ∧ 0 ≤ a ∧ a < 65521 ∧ 0 ≤ b ∧ b ≤ e ∧ 0 ≤ c ∧ c < 65521 ∧ c * a ^ b.toNat % 65521 = n ^ e.toNat % 65521) (fun _ y _ => (intOf y).toNat)
 case atStart => exact ⟨n, e, 1, rfl, rfl, rfl, hn, hn2, he, by omega, by omega, by omega, by simp⟩
 case round =>
  obtain ⟨a, b, c, rfl, rfl, rfl, ha, ha2, hb, hb2, hc, hc2, H⟩ := hrel
  replace H := Lib.hid H
  have ⟨m1, m2⟩ := mul_bd ha ha2 ha ha2
  have ⟨m3, m4⟩ := mul_bd hc hc2 ha ha2
  have e1 := i64_and_one hb (by omega)
  go_wp2
  ·have hodd : b % 2 = 1 := by simp_all
   have := pow_odd c a b (by assumption) hodd
   go_round
   case rel => exact ⟨_, _, _, rfl, rfl, rfl, by omega, by omega, by omega, by omega, by omega, by omega, by rw [this]; exact H.out⟩
   case measure => simp [intOf]; omega
  ·have hodd : b % 2 = 0 := by
    have : ¬ (b % 2 = 1) := by simp_all
    omega
   have := pow_even c a b (by assumption) hodd
   go_round
   case rel => exact ⟨_, _, _, rfl, rfl, rfl, by omega, by omega, by omega, by omega, by omega, by omega, by rw [this]; exact H.out⟩
   case measure => simp [intOf]; omega
  ·go_ret
   have hb0 : b = 0 := by omega
   subst hb0
   refine ⟨?_, rfl⟩
   rw [← H.out]
   simp; omega
theorem pow_cast (n : Int) (h : 0 ≤ n) (k : Nat) : n ^ k % 65521 = ((n.toNat ^ k % 65521 : Nat) : Int) := by
 obtain ⟨m, rfl⟩ := Int.eq_ofNat_of_zero_le h
 simp [Int.natCast_pow]
theorem inv_eq (n : Int) (h : 0 ≤ n) : n ^ (65519 : Int).toNat % 65521 = invN n := by
 have e : (65519 : Int).toNat = 65519 := rfl
 rw [e, pow_cast n h, invN]
theorem invN_bd (n : Int) : 0 ≤ invN n ∧ invN n < 65521 := by
 unfold invN
 have := Nat.mod_lt (n.toNat ^ 65519) (show 0 < 65521 by decide)
 omega
theorem inverse_any (n : Int) (w : World) (hn : 0 ≤ n) (hn2 : n < 65521) :
  Calls Tryd.prog 135 #[.int .i64 n] w fun r w' => r = .returned (.int .i64 (invN n)) ∧ w = w' := by
 have hc := power_any n 65519 w hn hn2 (by decide) (by decide)
 rw [inv_eq n hn] at hc
 replace hc := Lib.hid hc
 go_enter Tryd.func135, Tryd.ntmps135
 go_wp2_with (go_at_call 141; refine hc.out.mono ?_; rintro e w' ⟨rfl, rfl⟩)
 go_ret
 exact ⟨rfl, rfl⟩
def scP (own : List Int) (b : Int) (k : Nat) : List Int := (List.range own.length).map fun j => if j < k then own.getD j 0 * b % 65521 else own.getD j 0
theorem scP_zero (own : List Int) (b : Int) : scP own b 0 = own := by
 apply List.ext_getElem (by simp [scP])
 intro j h1 h2
 simp [scP, List.getD_eq_getElem?_getD, h2]
theorem scP_end (own : List Int) (b : Int) : scP own b own.length = scaleR own b := by
 apply List.map_congr_left; intro j hj
 rw [if_pos (by simpa using hj)]
theorem scP_len (own : List Int) (b : Int) (k : Nat) : (scP own b k).length = own.length := by simp [scP]
theorem scP_get (own : List Int) (b : Int) {k : Nat} (hk : k < own.length) : (scP own b k).getD k 0 = own.getD k 0 := by
 rw [List.getD_eq_getElem?_getD, scP, List.getElem?_map, List.getElem?_range hk]; simp
theorem scP_set (own : List Int) (b : Int) {k : Nat} : (scP own b k).set k (own.getD k 0 * b % 65521) = scP own b (k + 1) := by
 apply List.ext_getElem (by simp [scP])
 intro j h1 h2
 rw [List.getElem_set]
 have hj : j < own.length := by simpa [scP] using h2
 by_cases e : k = j
 ·subst e; rw [if_pos rfl]; simp [scP]
 ·rw [if_neg e]
  simp only [scP, List.getElem_map, List.getElem_range]
  by_cases h : j < k
  ·rw [if_pos h, if_pos (by omega)]
  ·rw [if_neg h, if_neg (by omega)]
def sbP (r own : List Int) (off : Int) (k : Nat) : List Int := (List.range r.length).map fun j => if j < k then (r.getD j 0 + off * own.getD j 0) % 65521 else r.getD j 0
theorem sbP_zero (r own : List Int) (b : Int) : sbP r own b 0 = r := by
 apply List.ext_getElem (by simp [sbP])
 intro j h1 h2
 simp [sbP, List.getD_eq_getElem?_getD, h2]
theorem sbP_end (r own : List Int) (b : Int) : sbP r own b r.length = subR r own b := by
 apply List.map_congr_left; intro j hj
 rw [if_pos (by simpa using hj)]
theorem sbP_len (r own : List Int) (b : Int) (k : Nat) : (sbP r own b k).length = r.length := by simp [sbP]
theorem sbP_get (r own : List Int) (b : Int) {k : Nat} (hk : k < r.length) : (sbP r own b k).getD k 0 = r.getD k 0 := by
 rw [List.getD_eq_getElem?_getD, sbP, List.getElem?_map, List.getElem?_range hk]; simp
theorem sbP_set (r own : List Int) (b : Int) {k : Nat} : (sbP r own b k).set k ((r.getD k 0 + b * own.getD k 0) % 65521) = sbP r own b (k + 1) := by
 apply List.ext_getElem (by simp [sbP])
 intro j h1 h2
 rw [List.getElem_set]
 have hj : j < r.length := by simpa [sbP] using h2
 by_cases e : k = j
 ·subst e; rw [if_pos rfl]; simp [sbP]
 ·rw [if_neg e]
  simp only [sbP, List.getElem_map, List.getElem_range]
  by_cases h : j < k
  ·rw [if_pos h, if_pos (by omega)]
  ·rw [if_neg h, if_neg (by omega)]
def clP (rs : List (List Int)) (row col i : Nat) : List (List Int) :=
 (List.range rs.length).map fun j => if j = row then ownR rs row col else if j < i ∧ gM rs j col ≠ 0 then subR (rs.getD j []) (ownR rs row col) (65521 - gM rs j col) else rs.getD j []
theorem clP_zero (rs : List (List Int)) {row col : Nat} : clP rs row col 0 = rs.set row (ownR rs row col) := by
 apply List.ext_getElem (by simp [clP])
 intro j h1 h2
 rw [List.getElem_set]
 have hj : j < rs.length := by simpa [clP] using h1
 simp only [clP, List.getElem_map, List.getElem_range]
 by_cases e : row = j
 ·rw [if_pos e.symm, if_pos e]
 ·rw [if_neg (Ne.symm e), if_neg e, if_neg (by omega), List.getD_eq_getElem?_getD, List.getElem?_eq_getElem hj]; rfl
theorem clP_end (rs : List (List Int)) (row col : Nat) : clP rs row col rs.length = clearM rs row col := by
 apply List.map_congr_left; intro j hj
 have : j < rs.length := by simpa using hj
 by_cases e : j = row
 ·rw [if_pos e, if_pos e]
 ·rw [if_neg e, if_neg e]
  by_cases h : gM rs j col = 0
  ·rw [if_neg (by simp [h]), if_pos h]
  ·rw [if_pos ⟨this, h⟩, if_neg h]
theorem clP_len (rs : List (List Int)) (row col i : Nat) : (clP rs row col i).length = rs.length := by simp [clP]
theorem clP_own (rs : List (List Int)) {row col i : Nat} (hr : row < rs.length) : (clP rs row col i)[row]? = some (ownR rs row col) := by
 rw [clP, List.getElem?_map, List.getElem?_range hr]; simp
theorem clP_get (rs : List (List Int)) {row col i : Nat} (hi : i < rs.length) (hne : i ≠ row) : (clP rs row col i)[i]? = some (rs.getD i []) := by
 rw [clP, List.getElem?_map, List.getElem?_range hi, Option.map_some, if_neg hne, if_neg (by omega)]
theorem clP_skip (rs : List (List Int)) {row col i : Nat} (h : i = row ∨ gM rs i col = 0) : clP rs row col i = clP rs row col (i + 1) := by
 apply List.map_congr_left; intro j _
 by_cases e : j = row
 ·rw [if_pos e, if_pos e]
 ·rw [if_neg e, if_neg e]
  by_cases h2 : j = i
  ·subst h2
   rw [if_neg (by omega), if_neg (by omega)]
  ·by_cases h3 : gM rs j col = 0
   ·rw [if_neg (by omega), if_neg (by omega)]
   ·by_cases h4 : j < i
    ·rw [if_pos ⟨h4, h3⟩, if_pos ⟨by omega, h3⟩]
    ·rw [if_neg (by omega), if_neg (by omega)]
theorem clP_set (rs : List (List Int)) {row col i : Nat} (hne : i ≠ row) (h0 : gM rs i col ≠ 0) :
  (clP rs row col i).set i (subR (rs.getD i []) (ownR rs row col) (65521 - gM rs i col)) = clP rs row col (i + 1) := by
 apply List.ext_getElem (by simp [clP])
 intro j h1 h2
 rw [List.getElem_set]
 have hj : j < rs.length := by simpa [clP] using h2
 simp only [clP, List.getElem_map, List.getElem_range]
 by_cases e : i = j
 ·subst e
  rw [if_pos rfl, if_neg hne, if_pos ⟨by omega, h0⟩]
 ·rw [if_neg e]
  by_cases e2 : j = row
  ·rw [if_pos e2, if_pos e2]
  ·rw [if_neg e2, if_neg e2]
   by_cases h3 : gM rs j col = 0
   ·rw [if_neg (by omega), if_neg (by omega)]
   ·by_cases h4 : j < i
    ·rw [if_pos ⟨h4, h3⟩, if_pos ⟨by omega, h3⟩]
    ·rw [if_neg (by omega), if_neg (by omega)]
theorem list_set_set {α : Type} (l : List α) (i : Nat) (a b : α) : (l.set i a).set i b = l.set i b := by simp
theorem list_set_same {α : Type} {l : List α} {i : Nat} {a : α} (h : l[i]? = some a) : l.set i a = l := by
 apply List.ext_getElem?; intro j
 by_cases e : i = j
 ·subst e; rw [List.getElem?_set_self (List.getElem?_eq_some_iff.1 h).1, h]
 ·rw [List.getElem?_set_ne e]
theorem ownR_bd (rs : List (List Int)) (row col k : Nat) : 0 ≤ (ownR rs row col).getD k 0 ∧ (ownR rs row col).getD k 0 < 65521 := by
 unfold ownR scaleR
 rw [List.getD_eq_getElem?_getD, List.getElem?_map]
 cases (List.range (rs.getD row []).length)[k]? with
 | none => simp
 | some x => exact ⟨Int.emod_nonneg _ (by decide), Int.emod_lt_of_pos _ (by decide)⟩
theorem ownR_len (rs : List (List Int)) (row col : Nat) : (ownR rs row col).length = (rs.getD row []).length := by simp [ownR, scaleR]
theorem sys_ne {w : World} {base sb : Nat} {v : Value} {rs : List (List Int)} {vs : List Value} {cs : Array Value} (h : OwnMv w base v rs vs) (hs : w.heap[sb]? = some (.cells cs 152 (0, 0))) : ∀ u ∈ vs, u.ownBlock ≠ some sb := by
 intro u hu e
 obtain ⟨j, hj, rfl⟩ := List.getElem_of_mem hu
 have hr := h.rows j _ _ (List.getElem?_eq_getElem (by have := h.len; omega)) (List.getElem?_eq_getElem hj)
 unfold OwnI at hr
 rcases hr.2 with ⟨e2, _⟩ | ⟨g, cap, cur, e2, _, hh, _⟩
 ·rw [e2] at e; simp [Value.ownBlock] at e
 ·rw [e2] at e
  have : g = sb := by simpa [Value.ownBlock] using e
  subst this
  rw [hs] at hh
  injection hh with hh
  injection hh with _ ht
  exact absurd ht (by decide)
theorem clear_any (rs : List (List Int)) (n m row col sb base : Nat) (v : Value) (vs : List Value) (t : Bool) (w : World) (h : OwnMv w base v rs vs) (hok : okM rs n m) (hn : n ≤ 1000) (hm : m ≤ 1000) (hrow : row < n) (hcol : col < m)
  (hs : w.heap[sb]? = some (.cells #[v, .bool t] 152 (0, 0))) :
  Calls Tryd.prog 142 #[.pointer (some ⟨sb, 0, none⟩), .agg #[.int .i64 row, .int .i64 col]] w fun e w' => e = .returned (.tuple #[]) ∧ OwnMv w' base v (clearM rs row col) vs ∧ KeptBut vs w w' := by
 have hne := sys_ne h hs
 have hl := h.len
 have hr : rs[row]? = some (rs.getD row []) := by rw [List.getD_eq_getElem?_getD, List.getElem?_eq_getElem (by rw [hok.1]; exact hrow)]; rfl
 obtain ⟨u, hu⟩ : ∃ u, vs[row]? = some u := ⟨_, List.getElem?_eq_getElem (by rw [hl, hok.1]; exact hrow)⟩
 obtain ⟨g, c, rfl, hbg, hglt, hcg, _⟩ := h.at_ hr hu
 obtain ⟨g1, c1, rfl, hbg1, hg1lt, hc1, _⟩ := h.num hr hu (k := col) (by rw [hok.row hrow]; exact hcol)
 rw [hok.1] at *
 rw [hok.row hrow] at *
 change w.cell? ⟨g1, col, none⟩ = some (.int .i64 (gM rs row col)) at hc1
 have hnum := hok.num row col
 have hb0 : Below w.heap.size w (w.alloc (.cells #[.int .i64 row, .int .i64 col] 159)) := (Below.refl _ _).alloc (Nat.le_refl _) _
 have hsz : (w.alloc (.cells #[.int .i64 row, .int .i64 col] 159)).heap.size = w.heap.size + 1 := World.size_alloc _ _
 have b0 : (w.alloc (.cells #[.int .i64 row, .int .i64 col] 159)).cell? ⟨w.heap.size, 0, none⟩ = some (.int .i64 row) := by simp only [World.cell?, heap_alloc_new]; rfl
 have b1 : (w.alloc (.cells #[.int .i64 row, .int .i64 col] 159)).cell? ⟨w.heap.size, 1, none⟩ = some (.int .i64 col) := by simp only [World.cell?, heap_alloc_new]; rfl
 have hslt : sb < w.heap.size := lt_of_block hs
 have s0 := (hb0.cell (p := ⟨sb, 0, none⟩) hslt).trans (show w.cell? ⟨sb, 0, none⟩ = some (Value.slice (some ⟨g, 0, none⟩) n c) by simp [World.cell?, hs])
 have s1 := (hb0.cell (p := ⟨g, row, none⟩) hglt).trans hcg
 have s2 := (hb0.cell (p := ⟨g1, col, none⟩) hg1lt).trans hc1
 have h' := Lib.hid (h.kept hb0)
 have hne' := Lib.hid hne
 have hbx : Hid (∀ u ∈ vs, u.ownBlock ≠ some w.heap.size) := Lib.hid (fun u hu e => by have := (h.ge u hu _ e).2; omega)
 have hou : Hid (∀ u ∈ vs, u.ownBlock ≠ some g) := Lib.hid (h.outer_ne rfl)
 have hok' := Lib.hid hok
 have hu' := Lib.hid hu
 have hr' := Lib.hid hr
 have hs' := Lib.hid (hb0.block sb hslt |>.trans hs)
 clear hok h hne hu hr hcg hc1 hs
 have r1 : (row : Int) < (n : Int) := by omega
 have r0 : (0 : Int) ≤ (row : Int) := by omega
 have c1' : (col : Int) < (m : Int) := by omega
 have c0' : (0 : Int) ≤ (col : Int) := by omega
 go_enter Tryd.func142, Tryd.ntmps142
 go_wp2
 generalize hW : w.alloc (.cells #[.int .i64 row, .int .i64 col] 159) = W at hb0 hsz b0 b1 s0 s1 s2 h' hs' ⊢
 go_still_tail 8, (by kernel_rfl)
 have hbd : Below W.heap.size W W.drew := (Below.refl _ _).drew
 replace h' := Lib.hid (h'.out.kept hbd)
 replace b0 : W.drew.cell? _ = _ := b0
 replace b1 : W.drew.cell? _ = _ := b1
 replace s0 : W.drew.cell? _ = _ := s0
 replace s1 : W.drew.cell? _ = _ := s1
 replace s2 : W.drew.cell? _ = _ := s2
 replace hsz : W.drew.heap.size = _ := hsz
 replace hs' : Hid (W.drew.heap[sb]? = _) := hs'
 replace hb0 := Lib.hid (hb0.drew)
 clear hbd
 change wpList _ _ _ _ _ W.drew
 generalize W.drew = W1 at h' b0 b1 s0 s1 s2 hsz hs' hb0 ⊢
 clear hW
 replace hsz := Lib.hid hsz
 go_wp2_with (go_at_call 135; refine (inverse_any _ _ hnum.1 hnum.2).mono ?_; rintro e w' ⟨rfl, rfl⟩)
 have hib := invN_bd (gM rs row col)
 have hown : Hid (ownR rs row col = scaleR (rs.getD row []) (invN (gM rs row col))) := Lib.hid rfl
 generalize invN (gM rs row col) = iv at hib hown ⊢
 have hlen : Hid ((rs.getD row []).length = m) := Lib.hid (hok'.out.row hrow)
 clear s1 s2 hnum
 go_loopw [6, 27] (fun _ i wr => ∃ k : Nat, k ≤ m ∧ i = .int .i64 k ∧ KeptBut vs W1 wr ∧ Hid (OwnMv wr base (.slice (some ⟨g, 0, none⟩) n c) (rs.set row (scP (rs.getD row []) iv k)) vs)) (fun _ i _ => m - (intOf i).toNat)
 case atStart => exact ⟨0, Nat.zero_le _, rfl, KeptBut.refl _ _, Lib.hid (by rw [scP_zero, list_set_same hr'.out]; exact h'.out)⟩
 case round =>
  obtain ⟨k, hk, rfl, hK, hO⟩ := hrel
  by_cases hlt : k < m
  ·have hrr : (rs.set row (scP (rs.getD row []) iv k))[row]? = some (scP (rs.getD row []) iv k) := by rw [List.getElem?_set_self (by rw [hok'.out.1]; exact hrow)]
   obtain ⟨g', c', e, _, hlt1, hc1, hf1⟩ := hO.out.num hrr hu'.out (k := k) (by rw [scP_len, hlen.out]; exact hlt)
   rw [scP_len, hlen.out] at e
   simp only [Value.slice.injEq, Option.some.injEq, Addr.mk.injEq, and_true, true_and] at e
   obtain ⟨rfl, rfl⟩ := e
   rw [scP_get _ _ (by rw [hlen.out]; exact hlt)] at hc1
   change wr.cell? _ = some (.int .i64 (gM rs row k)) at hc1
   have hn1 := hok'.out.num row k
   have ⟨m1, m2⟩ := mul_bd hn1.1 hn1.2 hib.1 hib.2
   have hput := hO.out.put hrr hu'.out (k := k) (gM rs row k * iv % 65521)
   have e2 : (rs.set row (scP (rs.getD row []) iv k)).set row ((scP (rs.getD row []) iv k).set k (gM rs row k * iv % 65521)) = rs.set row (scP (rs.getD row []) iv (k + 1)) := by
    rw [list_set_set]; congr 1; exact scP_set _ _
   rw [e2] at hput
   replace hput := Lib.hid hput
   clear e2 hrr
   have hkk := Lib.hid hK
   generalize gM rs row k = x at hn1 m1 m2 hc1 hput
   have q1 : (k : Int) < (m : Int) := by omega
   have q0 : (0 : Int) ≤ (k : Int) := by omega
   go_wp2
   go_roundw
   case rel => exact ⟨k + 1, by omega, by go_num, hkk.out.trans hput.out.2, Lib.hid hput.out.1⟩
   case measure => simp [intOf]; omega
  ·obtain rfl : m = k := by omega
   have hO' : OwnMv wr base (.slice (some ⟨g, 0, none⟩) n c) (clP rs row col 0) vs := by
    have := hO.out
    rw [clP_zero, hown.out, ← scP_end, hlen.out]; exact this
   replace hO' := Lib.hid hO'
   clear hO
   have t0 := hK.cell s0 hne'.out
   go_wp2
   obtain ⟨wo, rfl⟩ : ∃ wo : World, wo = wr := ⟨_, rfl⟩
   replace hK := Lib.hid hK
   clear t0
   go_loopw [46] (fun i wr => ∃ i' : Nat, i' ≤ n ∧ i = .int .i64 i' ∧ Hid (KeptBut vs W1 wr) ∧ Hid (OwnMv wr base (.slice (some ⟨g, 0, none⟩) n c) (clP rs row col i') vs)) (fun i _ => n - (intOf i).toNat)
   case atStart => exact ⟨0, Nat.zero_le _, rfl, hK, hO'⟩
   case round =>
    obtain ⟨i, hi, rfl, hK, hO⟩ := hrel
    by_cases hin : i < n
    ·obtain ⟨ui, hui⟩ : ∃ u, vs[i]? = some u := ⟨_, List.getElem?_eq_getElem (by rw [hl]; exact hin)⟩
     have i1 : (i : Int) < (n : Int) := by omega
     have i0 : (0 : Int) ≤ (i : Int) := by omega
     have t1 := hK.out.cell b0 hbx.out
     have t2 := hK.out.cell b1 hbx.out
     by_cases hir : i = row
     ·subst hir
      obtain ⟨g', c', e, _, _, hcg, _⟩ := hO.out.at_ (clP_own rs (by rw [hok'.out.1]; exact hin)) hui
      simp only [Value.slice.injEq, Option.some.injEq, Addr.mk.injEq, and_true] at e
      obtain ⟨rfl, -, -⟩ := e
      rw [clP_skip rs (.inl rfl)] at hO
      replace hui := Lib.hid hui
      go_wp2
      go_roundw
      case rel => exact ⟨i + 1, by omega, by go_num, hK, hO⟩
      case measure => simp [intOf]; omega
     ·obtain ⟨g', c', e, _, _, hcg, _⟩ := hO.out.at_ (clP_get rs (by rw [hok'.out.1]; exact hin) hir) hui
      simp only [Value.slice.injEq, Option.some.injEq, Addr.mk.injEq, and_true] at e
      obtain ⟨rfl, -, -⟩ := e
      obtain ⟨g2, c2, rfl, _, _, hcc, _⟩ := hO.out.num (clP_get rs (by rw [hok'.out.1]; exact hin) hir) hui (k := col) (by rw [hok'.out.row hin]; exact hcol)
      rw [hok'.out.row hin] at hui hcg
      change wr.cell? _ = some (.int .i64 (gM rs i col)) at hcc
      have hir' : ((i : Int) == (row : Int)) = false := by rw [beq_eq_false_iff_ne]; omega
      by_cases hz : gM rs i col = 0
      ·rw [clP_skip rs (.inr hz)] at hO
       rw [hz] at hcc
       replace hui := Lib.hid hui
       replace hz := Lib.hid hz
       go_wp2
       go_roundw
       case rel => exact ⟨i + 1, by omega, by go_num, hK, hO⟩
       case measure => simp [intOf]; omega
      ·have hz' : ((gM rs i col) == 0) = false := by rw [beq_eq_false_iff_ne]; exact hz
       have hzb := hok'.out.num i col
       have hzp : 0 < gM rs i col := by omega
       have hset : Hid ((clP rs row col i).set i (subR (rs.getD i []) (ownR rs row col) (65521 - gM rs i col)) = clP rs row col (i + 1)) := Lib.hid (clP_set rs hir hz)
       replace hz := Lib.hid hz
       have hui' := Lib.hid hui
       clear hui
       go_wp2
       obtain ⟨wi, rfl⟩ : ∃ wi : World, wi = wr := ⟨_, rfl⟩
       clear t1 t2 hcg hcc
       go_loopw [10, 71] (fun _ j wr => ∃ k : Nat, k ≤ m ∧ j = .int .i64 k ∧ Hid (KeptBut vs W1 wr) ∧ Hid (OwnMv wr base (.slice (some ⟨g, 0, none⟩) n c) ((clP rs row col i).set i (sbP (rs.getD i []) (ownR rs row col) (65521 - gM rs i col) k)) vs)) (fun _ j _ => m - (intOf j).toNat)
       case atStart => exact ⟨0, Nat.zero_le _, rfl, hK, Lib.hid (by rw [sbP_zero, list_set_same (clP_get rs (by rw [hok'.out.1]; exact hin) hir)]; exact hO.out)⟩
       case round =>
        obtain ⟨k, hk, rfl, hK, hO⟩ := hrel
        by_cases hlt : k < m
        ·have hri : ((clP rs row col i).set i (sbP (rs.getD i []) (ownR rs row col) (65521 - gM rs i col) k))[i]? = some (sbP (rs.getD i []) (ownR rs row col) (65521 - gM rs i col) k) := List.getElem?_set_self (by rw [clP_len, hok'.out.1]; exact hin)
         have hro : ((clP rs row col i).set i (sbP (rs.getD i []) (ownR rs row col) (65521 - gM rs i col) k))[row]? = some (ownR rs row col) := by rw [List.getElem?_set_ne hir]; exact clP_own rs (by rw [hok'.out.1]; exact hrow)
         obtain ⟨g', c', e, -, -, hx, hf⟩ := hO.out.num hri hui'.out (k := k) (by rw [sbP_len, hok'.out.row hin]; exact hlt)
         simp only [Value.slice.injEq, Option.some.injEq, Addr.mk.injEq, and_true] at e
         obtain ⟨rfl, -, -⟩ := e
         rw [sbP_get _ _ _ (by rw [hok'.out.row hin]; exact hlt)] at hx
         change wr.cell? _ = some (.int .i64 (gM rs i k)) at hx
         obtain ⟨g', c', e, -, -, hy, -⟩ := hO.out.num hro hu'.out (k := k) (by rw [ownR_len, hlen.out]; exact hlt)
         simp only [Value.slice.injEq, Option.some.injEq, Addr.mk.injEq, and_true] at e
         obtain ⟨rfl, -, -⟩ := e
         have hput := hO.out.put hri hui'.out (k := k) ((gM rs i k + (65521 - gM rs i col) * (ownR rs row col).getD k 0) % 65521)
         rw [list_set_set, show (sbP (rs.getD i []) (ownR rs row col) (65521 - gM rs i col) k).set k ((gM rs i k + (65521 - gM rs i col) * (ownR rs row col).getD k 0) % 65521) = sbP (rs.getD i []) (ownR rs row col) (65521 - gM rs i col) (k + 1) from sbP_set _ _ _] at hput
         replace hput := Lib.hid hput
         have hyb := ownR_bd rs row col k
         have hxb := hok'.out.num i k
         have ⟨m1, m2⟩ := mul_bd (a := 65521 - gM rs i col) (b := (ownR rs row col).getD k 0) (by omega) (by omega) hyb.1 hyb.2
         clear hri hro
         generalize (ownR rs row col).getD k 0 = y at hy hyb m1 m2 hput
         generalize gM rs i k = x at hx hxb hput
         have q1 : (k : Int) < (m : Int) := by omega
         have q0 : (0 : Int) ≤ (k : Int) := by omega
         go_wp2
         go_still_tail 15, (by kernel_rfl)
         change wpList _ _ _ _ _ wr.drew
         go_wp2
         go_roundw
         case rel => exact ⟨k + 1, by omega, by go_num, Lib.hid (hK.out.trans hput.out.2).drew, Lib.hid (hput.out.1.kept (Below.refl _ _).drew)⟩
         case measure => simp [intOf]; omega
        ·obtain rfl : m = k := by omega
         go_wp2
         go_roundw
         case rel => exact ⟨i + 1, by omega, by go_num, hK, Lib.hid (by have := hO.out; rw [show sbP (rs.getD i []) (ownR rs row col) (65521 - gM rs i col) m = subR (rs.getD i []) (ownR rs row col) (65521 - gM rs i col) from by rw [← sbP_end, hok'.out.row hin], hset.out] at this; exact this)⟩
         case measure => simp [intOf]; omega
    ·obtain rfl : n = i := by omega
     go_wp2
     go_end0
     have h1 := hO.out
     rw [show clP rs row col n = clearM rs row col from by rw [← clP_end, hok'.out.1]] at h1
     exact ⟨rfl, h1, (KeptBut.of_below hb0.out).trans hK.out⟩
end Go.Proofs.YtlpldfocljnpnaaDoor
