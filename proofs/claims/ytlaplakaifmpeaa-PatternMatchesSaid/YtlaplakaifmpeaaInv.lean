/- A region that draws its order, by an invariant over what has come up: each operation that may come up keeps it. No program in sight. -/
import Derived.Test.YtlaplakaifmpeaaLawKit
import Derived.Orders
import Derived.RegionTactic
namespace Go.Proofs.Ytlaplakaifmpeaa.K
open Go.RowKit
set_option linter.unusedVariables false
set_option linter.unusedSimpArgs false

section
variable {P : Program} {ops : Array Oper} {Q : Exit → Act → World → Prop} {md : Region.Mode}
/-- How many have not come up. -/
def unl (listed : Array Bool) : Nat := (listed.toList.filter (fun b => !b)).length
theorem filter_set_lt : ∀ (l : List Bool) (i : Nat), l[i]? = some false → ((l.set i true).filter (fun b => !b)).length < (l.filter (fun b => !b)).length
  | [], i, h => by simp at h
  | b :: l, 0, h => by
    simp at h
    subst h
    simp
  | b :: l, i + 1, h => by
    have := filter_set_lt l i (by simpa using h)
    simp only [List.set_cons_succ]
    cases b <;> simp <;> omega
theorem unl_set {listed : Array Bool} {i : Nat} (h : listed.getD i true = false) : unl (listed.setIfInBounds i true) < unl listed := by
  have h1 : listed.toList[i]? = some false := by
    rw [Array.getElem?_toList]
    rcases Nat.lt_or_ge i listed.size with h' | h'
    · simp [h'] at h ⊢; exact h
    · simp [Array.getElem?_eq_none h'] at h
  have := filter_set_lt listed.toList i h1
  unfold unl
  rw [Array.toList_setIfInBounds]
  exact this
theorem wpAny_inv (I : Array Bool → Act → World → Prop) (hend : ∀ listed a w, I listed a w → Region.ready md ops listed = [] → Q .normal a w)
    (hstep : ∀ i listed a w, I listed a w → i ∈ Region.ready md ops listed → wpOp P ops Q i (I (listed.setIfInBounds i true)) a w) :
    ∀ (fuel : Nat) (listed : Array Bool) (a : Act) (w : World), unl listed ≤ fuel → I listed a w → wpAny P md ops Q fuel listed a w
  | 0, listed, a, w, hf, h => by
    have hr : Region.ready md ops listed = [] := by
      cases hr : Region.ready md ops listed with
      | nil => rfl
      | cons i rs =>
        have hi : i ∈ Region.ready md ops listed := by rw [hr]; exact List.mem_cons_self ..
        have := unl_set (mem_ready.1 hi).1
        omega
    exact ⟨hr, hend _ _ _ h hr⟩
  | fuel + 1, listed, a, w, hf, h => by
    refine ⟨fun hr => hend _ _ _ h hr, fun i hi => wpOp_mono (fun a' w' h' => wpAny_inv I hend hstep fuel _ a' w' ?_ h') (hstep i listed a w h hi)⟩
    have := unl_set (mem_ready.1 hi).1
    omega
theorem wp_region_inv {id : Nat} {a : Act} {w : World} (hm : P.follows .mixedOrders = true) (I : Array Bool → Act → World → Prop) (h0 : I (Array.replicate ops.size false) a w.drew)
    (hend : ∀ listed a w, I listed a w → Region.ready .any ops listed = [] → Q .normal a w)
    (hstep : ∀ i listed a w, I listed a w → i ∈ Region.ready .any ops listed → wpOp P ops Q i (I (listed.setIfInBounds i true)) a w) : (Code.region id ops true).wp P Q a w := by
  refine wp_region_any hm (wpAny_inv I hend hstep _ _ _ _ ?_ h0)
  unfold unl
  refine Nat.le_trans (List.length_filter_le _ _) ?_
  simp
/-- What has come up, as a function. -/
def come (listed : Array Bool) (j : Nat) : Bool := listed.getD j false
def upto (L : Nat → Bool) (i j : Nat) : Bool := if j = i then true else L j
theorem come_set {listed : Array Bool} {i : Nat} (h : listed.getD i true = false) : come (listed.setIfInBounds i true) = upto (come listed) i := by
  funext j
  unfold come upto
  by_cases e : j = i
  · subst e
    rw [if_pos rfl]
    rcases Nat.lt_or_ge j listed.size with h' | h'
    · simp [h']
    · simp [Array.getElem?_eq_none h'] at h
  · rw [if_neg e, getD_set_ne false (fun h => e h.symm)]
def Region.back (ops : Array Oper) : Bool := (List.range ops.size).all fun i => ((ops[i]?).map fun o => o.after.all fun e => !(Region.binds .any e) || decide (e.on < i)).getD true
theorem ready_none {listed : Array Bool} (hb : Region.back ops = true) (hs : listed.size = ops.size) (hr : Region.ready .any ops listed = []) : ∀ i, i < ops.size → come listed i = true := by
  intro i
  induction i using Nat.strongRecOn with
  | _ i ih =>
    intro hi
    cases hc : come listed i with
    | true => rfl
    | false =>
      exfalso
      have hmem : i ∈ Region.ready .any ops listed := by
        rw [mem_ready]
        have hil : i < listed.size := by omega
        refine ⟨by unfold come at hc; simp [hil] at hc ⊢; exact hc, ops[i], Array.getElem?_eq_getElem hi, fun e he hbi => ?_⟩
        have h1 := List.all_eq_true.1 hb i (List.mem_range.2 hi)
        rw [Array.getElem?_eq_getElem hi] at h1
        have h2 := Array.all_eq_true_iff_forall_mem.1 h1 e he
        rw [hbi] at h2
        have h3 : e.on < i := of_decide_eq_true (by simpa using h2)
        exact ih e.on h3 (by omega)
      rw [hr] at hmem
      cases hmem
theorem wp_region_by {id : Nat} {a : Act} {w : World} (hm : P.follows .mixedOrders = true) (hb : Region.back ops = true) (I : (Nat → Bool) → Act → World → Prop) (h0 : I (fun _ => false) a w.drew)
    (hend : ∀ L a w, I L a w → (∀ i, i < ops.size → L i = true) → Q .normal a w)
    (hstep : ∀ i o, ops[i]? = some o → ∀ L a w, I L a w → L i = false → (∀ e ∈ o.after, Region.binds .any e = true → L e.on = true) → ∀ K : Act → World → Prop, (∀ a w, I (upto L i) a w → K a w) →
      if Region.wanted o (yielded ops a.tmps) = true then Oper.wp P o a w K Q else K (a.put o.dst undef) w) : (Code.region id ops true).wp P Q a w := by
  refine wp_region_inv hm (fun listed a w => listed.size = ops.size ∧ I (come listed) a w) ⟨by simp, ?_⟩ (fun listed a w h hr => hend _ a w h.2 (ready_none hb h.1 hr)) (fun i listed a w h hi => ?_)
  · have : come (Array.replicate ops.size false) = fun _ => false := by
      funext j
      unfold come
      rcases Nat.lt_or_ge j ops.size with h' | h'
      · simp [h']
      · simp [h']
    rw [this]
    exact h0
  · obtain ⟨hu, o, ho, hall⟩ := mem_ready.1 hi
    have hf : come listed i = false := by
      unfold come
      rcases Nat.lt_or_ge i listed.size with h' | h'
      · simp [h'] at hu ⊢; exact hu
      · simp [Array.getElem?_eq_none h'] at hu
    refine wpOp_step ho fun K hK => hstep i o ho (come listed) a w h.2 hf hall K fun a' w' h' => hK a' w' ⟨by simp [h.1], ?_⟩
    rw [come_set hu]
    exact h'
end
end Go.Proofs.Ytlaplakaifmpeaa.K
