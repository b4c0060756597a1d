/- A region within a fence that draws its order, by an invariant over what has come up. No program in sight. -/
import Derived.Test.YtbpdaoedmjpdpaaInv
import Derived.OrdersIn
namespace Go.Proofs.Ytbpdaoedmjpdpaa.K
open Go.RowKit
set_option linter.unusedVariables false
set_option linter.unusedSimpArgs false

section
variable {F : Fence} {n : Nat} {P : Program} {ops : Array Oper} {Q : Exit → Act → World → Prop} {md : Region.Mode}
theorem wpAnyIn_inv (I : Array Bool → Act → World → Prop) (hend : ∀ listed a w, I listed a w → Region.ready md ops listed = [] → Q .normal a w)
    (hstep : ∀ i listed a w, I listed a w → i ∈ Region.ready md ops listed → wpOpIn F n P ops Q i (I (listed.setIfInBounds i true)) a w) :
    ∀ (fuel : Nat) (listed : Array Bool) (a : Act) (w : World), unl listed ≤ fuel → I listed a w → wpAnyIn F n P md ops Q fuel listed a w
  | 0, listed, a, w, hf, h => by
    have hr : Region.ready md ops listed = [] := by
      cases hr : Region.ready md ops listed with
      | nil => rfl
      | cons i rs =>
        have hi : i ∈ Region.ready md ops listed := by rw [hr]; exact List.mem_cons_self ..
        have := unl_set (mem_ready.1 hi).1
        omega
    exact ⟨hr, hend _ _ _ h hr⟩
  | fuel + 1, listed, a, w, hf, h => by
    refine ⟨fun hr => hend _ _ _ h hr, fun i hi => wpOpIn_mono (fun a' w' h' => wpAnyIn_inv I hend hstep fuel _ a' w' ?_ h') (hstep i listed a w h hi)⟩
    have := unl_set (mem_ready.1 hi).1
    omega
theorem wpIn_region_by {id : Nat} {a : Act} {w : World} (hm : P.follows .mixedOrders = true) (hb : Region.back ops = true) (I : (Nat → Bool) → Act → World → Prop) (h0 : I (fun _ => false) a w.drew)
    (hend : ∀ L a w, I L a w → (∀ i, i < ops.size → L i = true) → Q .normal a w)
    (hstep : ∀ i o, ops[i]? = some o → ∀ L a w, I L a w → L i = false → (∀ e ∈ o.after, Region.binds .any e = true → L e.on = true) → ∀ K : Act → World → Prop, (∀ a w, I (upto L i) a w → K a w) →
      if Region.wanted o (yielded ops a.tmps) = true then Oper.wpIn F n P o a w K Q else (∀ f, o.about P w a.eval = some f → F.fn f) ∧ K (a.put o.dst undef) w) : (Code.region id ops true).wpIn F n P Q a w := by
  refine wpIn_region_any hm (wpAnyIn_inv (fun listed a w => listed.size = ops.size ∧ I (come listed) a w) (fun listed a w h hr => hend _ a w h.2 (ready_none hb h.1 hr)) (fun i listed a w h hi => ?_) _ _ _ _ ?_ ⟨by simp, ?_⟩)
  · obtain ⟨hu, o, ho, hall⟩ := mem_ready.1 hi
    have hf : come listed i = false := by
      unfold come
      rcases Nat.lt_or_ge i listed.size with h' | h'
      · simp [h'] at hu ⊢; exact hu
      · simp [Array.getElem?_eq_none h'] at hu
    refine wpOpIn_step ho fun K hK => hstep i o ho (come listed) a w h.2 hf hall K fun a' w' h' => hK a' w' ⟨by simp [h.1], ?_⟩
    rw [come_set hu]
    exact h'
  · unfold unl
    refine Nat.le_trans (List.length_filter_le _ _) ?_
    simp
  · have : come (Array.replicate ops.size false) = fun _ => false := by
      funext j
      unfold come
      rcases Nat.lt_or_ge j ops.size with h' | h'
      · simp [h']
      · simp [h']
    rw [this]
    exact h0
end
end Go.Proofs.Ytbpdaoedmjpdpaa.K
