/- Plain: why a term may not be. No program in sight. -/
import Derived.Test.YtnedjmjcbmoknaaSound
namespace Go.Proofs.Ytnedjmjcbmoknaa.K
open Go.RowKit
set_option linter.unusedVariables false
set_option linter.unusedSimpArgs false

/-- May all of these be? How many words have they themselves? -/
def sndL (l : List Tm) : Bool := l.all soundB
def wrdL : List Tm → Int
  | [] => 0
  | t :: r => ownN t + wrdL r
theorem wrdL_append (l l' : List Tm) : wrdL (l ++ l') = wrdL l + wrdL l' := by
  induction l with
  | nil => simp [wrdL]
  | cons a l ih => simp only [List.cons_append, wrdL, ih]; omega
theorem wrdL_range (l : List Tm) : 0 ≤ wrdL l ∧ wrdL l ≤ 2 * l.length := by
  induction l with
  | nil => simp [wrdL]
  | cons a l ih => have := ownN_range a; simp only [wrdL, List.length_cons]; omega
/-- Why may a term not be? -/
def chk (t : Tm) : Int := if sndL (subs t) = true then (if 65536 < wrdL (subs t) then 3 else 0) else 2

theorem sndL_append (l l' : List Tm) : sndL (l ++ l') = (sndL l && sndL l') := by unfold sndL; rw [List.all_append]
theorem sndL_subs (t : Tm) : sndL (subs t) = (soundB t && sndL (subsL t.l)) := by rw [subs_eq]; rfl
theorem sndL_take_succ {l : List Tm} {k : Nat} {u : Tm} (h : l[k]? = some u) : sndL (subsL (l.take (k + 1))) = (sndL (subsL (l.take k)) && sndL (subs u)) := by
  rw [take_snoc_of h, subsL_append, sndL_append, subsL_cons, subsL_nil, List.append_nil]
theorem sndL_mem {l : List Tm} {u : Tm} (hl : sndL (subsL l) = true) (h : u ∈ l) : sndL (subs u) = true := by
  induction l with
  | nil => simp at h
  | cons a r ih =>
    rw [subsL_cons, sndL_append, Bool.and_eq_true] at hl
    rcases List.mem_cons.1 h with rfl | h
    · exact hl.1
    · exact ih hl.2 h
theorem sound_leaf {t : Tm} (h : soundB t = true) (hb : hasB t = false) : t.l = [] := by
  have hb' : ¬ (t.k = 7 ∨ t.k = 5 ∨ t.k = 9) := of_decide_eq_false hb
  have h7 : t.k ≠ 7 := fun e => hb' (.inl e)
  have h5 : t.k ≠ 5 := fun e => hb' (.inr (.inl e))
  have h9 : t.k ≠ 9 := fun e => hb' (.inr (.inr e))
  unfold soundB soundK at h
  repeat' split at h
  all_goals first | (simp only [decide_eq_true_eq] at h; exact List.eq_nil_of_length_eq_zero (by omega)) | (exfalso; omega) | cases h
/-- What may be has as many words as its parts together. -/
theorem wds_snd : ∀ t : Tm, sndL (subs t) = true → wds t = wrdL (subs t) := by
  refine Tm.ind fun t ih h => ?_
  rw [sndL_subs, Bool.and_eq_true] at h
  have hl : ∀ l : List Tm, (∀ u ∈ l, sndL (subs u) = true → wds u = wrdL (subs u)) → sndL (subsL l) = true → wdsL l = wrdL (subsL l) := fun l h hs => by
    induction l with
    | nil => rw [wdsL_nil, subsL_nil]; rfl
    | cons a r ihr =>
      rw [subsL_cons, sndL_append, Bool.and_eq_true] at hs
      rw [wdsL_cons, subsL_cons, wrdL_append, h a (List.mem_cons_self ..) hs.1, ihr (fun u hu => h u (List.mem_cons_of_mem _ hu)) hs.2]
  rw [wds_eq, subs_eq]
  show _ = ownN t + wrdL (subsL t.l)
  cases hb : hasB t with
  | true => rw [if_pos rfl, hl t.l ih h.2]
  | false => rw [if_neg (by simp), sound_leaf h.1 hb, subsL_nil]; rfl
theorem chk_eq (t : Tm) : chk t = if sndL (subs t) = true then (if 65536 < wds t then 3 else 0) else 2 := by
  unfold chk
  by_cases h : sndL (subs t) = true
  · rw [if_pos h, if_pos h, wds_snd t h]
  · rw [if_neg h, if_neg h]
end Go.Proofs.Ytnedjmjcbmoknaa.K
