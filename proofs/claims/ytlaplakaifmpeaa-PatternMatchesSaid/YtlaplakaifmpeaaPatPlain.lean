/- What a pattern without variables matches: itself. Plain. -/
import Derived.Test.YtlaplakaifmpeaaPatFills
namespace Go.Proofs.Ytlaplakaifmpeaa.Pt
open Go.RowKit K Go.Shelf
set_option linter.unusedVariables false
set_option linter.unusedSimpArgs false

def snd (t : Tm) : Prop := sndL (subs t) = true
theorem snd_of_may {t : Tm} (h : mayT t = true) : snd t := by
  unfold mayT chk at h
  unfold snd
  cases hs : sndL (subs t) with
  | true => rfl
  | false => rw [hs] at h; simp at h
theorem snd_own {t : Tm} (h : snd t) : soundB t = true := by
  unfold snd at h
  rw [sndL_subs] at h
  exact (Bool.and_eq_true_iff.1 h).1
theorem snd_mem {t u : Tm} (h : snd t) (hu : u ∈ t.l) : snd u := by
  unfold snd at h
  rw [sndL_subs] at h
  exact sndL_mem (Bool.and_eq_true_iff.1 h).2 hu
theorem bytes_empty {s s' : ByteArray} (h : s.size = 0) (h' : s'.size = 0) : s = s' := by
  obtain ⟨a⟩ := s
  obtain ⟨b⟩ := s'
  have h1 : a.size = 0 := h
  have h2 : b.size = 0 := h'
  rw [Array.eq_empty_of_size_eq_zero h1, Array.eq_empty_of_size_eq_zero h2]
theorem snd_inner {t : Tm} (h : snd t) (hk : t.k = 7 ∨ t.k = 9) : t.n = 0 ∧ t.s.size = 0 := by
  have h1 := snd_own h
  unfold soundB soundK at h1
  rcases hk with hk | hk
  · rw [hk] at h1; simp at h1; exact ⟨h1.1, by rw [h1.2.1]; rfl⟩
  · rw [hk] at h1; simp at h1; exact ⟨h1.1, by rw [h1.2.1]; rfl⟩
/-- Neither a variable nor what matches all stands in it. -/
def Fixed (t : Tm) : Prop := (rleafs t).any freeB = false
theorem fixedL_mem {l : List Tm} (h : (rleafsL l).any freeB = false) {u : Tm} (hu : u ∈ l) : Fixed u := by
  induction l with
  | nil => simp at hu
  | cons a r ih =>
    rw [rleafsL_cons, List.any_append, Bool.or_eq_false_iff] at h
    rcases List.mem_cons.1 hu with rfl | hu
    · exact h.2
    · exact ih h.1 hu
theorem fixed_mem {t u : Tm} (h : Fixed t) (hk : t.k = 7 ∨ t.k = 9) (hu : u ∈ t.l) : Fixed u := by
  unfold Fixed at h
  rw [rleafs_eq, if_pos (by unfold goes; simpa using hk)] at h
  exact fixedL_mem h hu
theorem fixed_leaf {t : Tm} (h : Fixed t) (hk : ¬ (t.k = 7 ∨ t.k = 9)) : freeB t = false := by
  unfold Fixed at h
  rw [rleafs_eq, if_neg (by unfold goes; simpa using hk)] at h
  simpa using h
theorem fixed_match (b : Bf) : ∀ p : Tm, Fixed p → snd p → ∀ t, snd t → matchF p t b = if eqT p t = true then some b else none := by
  refine Tm.ind fun p ih hf hs t ht => ?_
  obtain ⟨k, n, s, l⟩ := p
  simp only [Tm.l_mk] at ih
  rw [matchF]
  by_cases h2 : k = 2
  · have h3 := fixed_leaf hf (by simp; omega)
    unfold freeB at h3
    simp [h2] at h3
    obtain ⟨hn, hu⟩ := h3
    rw [if_pos h2, if_neg hu]
    cases hns : numS s with
    | some q => rw [hns] at hn; simp at hn
    | none => rfl
  rw [if_neg h2]
  by_cases h79 : k = 7 ∨ k = 9
  · rw [if_pos h79]
    have hL : ∀ (r r' : List Tm), (∀ u ∈ r, u ∈ l) → (∀ u ∈ r', snd u) → r'.length = r.length → matchL r r' b = if eqTs r r' = true then some b else none := fun r => by
      induction r with
      | nil =>
        intro r' _ _ hl
        have : r' = [] := by cases r' with | nil => rfl | cons => simp at hl
        subst this
        rw [matchL_nil, if_pos (eqTs_iff.2 rfl)]
      | cons u r ihr =>
        intro r' hr hr' hl
        cases r' with
        | nil => simp at hl
        | cons u' r' =>
          rw [matchL_cons, ih u (hr u (List.mem_cons_self ..)) (fixed_mem hf h79 (hr u (List.mem_cons_self ..))) (snd_mem hs (hr u (List.mem_cons_self ..))) u' (hr' u' (List.mem_cons_self ..))]
          by_cases e : u = u'
          · subst e
            rw [if_pos (eqT_iff.2 rfl)]
            show matchL r r' b = _
            rw [ihr r' (fun v hv => hr v (List.mem_cons_of_mem _ hv)) (fun v hv => hr' v (List.mem_cons_of_mem _ hv)) (by simpa using hl)]
            by_cases e2 : r = r'
            · subst e2; rw [if_pos (eqTs_iff.2 rfl), if_pos (eqTs_iff.2 rfl)]
            · rw [if_neg (by rw [eqTs_iff]; exact e2), if_neg (by rw [eqTs_iff]; intro h; injection h with h1 h2; exact e2 h2)]
          · rw [if_neg (by rw [eqT_iff]; exact e), if_neg (by rw [eqTs_iff]; intro h; injection h with h1 h2; exact e h1)]
            rfl
    have hsi := snd_inner hs h79
    simp only [Tm.n_mk, Tm.s_mk] at hsi
    obtain ⟨tk, tn, ts, tl⟩ := t
    show (if tk = k ∧ tl.length = l.length then matchL l tl b else none) = _
    by_cases hc : tk = k ∧ tl.length = l.length
    · rw [if_pos hc, hL l tl (fun u h => h) (fun u hu => snd_mem ht hu) hc.2]
      have hti := snd_inner ht (by rw [Tm.k_mk, hc.1]; exact h79)
      simp only [Tm.n_mk, Tm.s_mk] at hti
      by_cases e : l = tl
      · subst e
        rw [if_pos (eqTs_iff.2 rfl), if_pos (eqT_iff.2 (by rw [hc.1, hsi.1, hti.1, bytes_empty hsi.2 hti.2]))]
      · rw [if_neg (show ¬ eqTs l tl = true from by rw [eqTs_iff]; exact e), if_neg (show ¬ eqT (.mk k n s l) (.mk tk tn ts tl) = true from by rw [eqT_iff]; intro h; injection h with h1 h2 h3 h4; exact e h4)]
    · rw [if_neg hc, if_neg (show ¬ eqT (.mk k n s l) (.mk tk tn ts tl) = true from by rw [eqT_iff]; intro h; injection h with h1 h2 h3 h4; exact hc ⟨h1.symm, by rw [h4]⟩)]
  · rw [if_neg h79]
theorem fixed_fill (b : Bf) : ∀ p : Tm, Fixed p → fillP p b = some p := by
  refine Tm.ind fun p ih hf => ?_
  obtain ⟨k, n, s, l⟩ := p
  simp only [Tm.l_mk] at ih
  rw [fillP]
  by_cases h2 : k = 2
  · have h3 := fixed_leaf hf (by simp; omega)
    unfold freeB at h3
    simp [h2] at h3
    obtain ⟨hn, hu⟩ := h3
    rw [if_pos h2, if_neg hu]
    cases hns : numS s with
    | some q => rw [hns] at hn; simp at hn
    | none => rfl
  rw [if_neg h2]
  by_cases h79 : k = 7 ∨ k = 9
  · rw [if_pos h79]
    have hL : ∀ r : List Tm, (∀ u ∈ r, u ∈ l) → fillL r b = some r := fun r => by
      induction r with
      | nil => intro _; exact fillL_nil b
      | cons u r ihr =>
        intro hr
        rw [fillL_cons, ih u (hr u (List.mem_cons_self ..)) (fixed_mem hf h79 (hr u (List.mem_cons_self ..))), ihr (fun v hv => hr v (List.mem_cons_of_mem _ hv))]
        rfl
    rw [hL l (fun u h => h)]
    rfl
  · rw [if_neg h79]
theorem fixed_vars {p : Tm} (h : Fixed p) : varsT p = [] := by
  have hv : ∀ n, varIn (rleafs p) n = false := fun n => by
    unfold varIn
    rw [List.any_eq_false]
    intro u hu
    have h1 : freeB u = false := by
      unfold Fixed at h
      rw [List.any_eq_false] at h
      simpa using h u hu
    unfold isVar
    by_cases h2 : u.k = 2
    · unfold freeB at h1
      simp [h2] at h1
      have hn : numS u.s = none := by
        cases hns : numS u.s with
        | none => rfl
        | some q => rw [hns] at h1; simp at h1
      rw [if_pos h2, hn]
      simp
    · rw [if_neg h2]
      simp
  unfold varsT varsUp
  have : (List.range 100).filter (varIn (rleafs p)) = [] := by
    rw [List.filter_eq_nil_iff]
    intro n _
    rw [hv n]
    simp
  rw [this]
  rfl
theorem bound_fixed {p : Tm} (h : boundT p = true) : mayT p = true ∧ Fixed p := by
  unfold boundT at h
  rw [Bool.and_eq_true_iff] at h
  exact ⟨h.1, by unfold Fixed; simpa using h.2⟩
theorem more_fixed {p t : Tm} (hb : boundT p = true) : moreP p t [] = if eqT p t = true then some [] else none := by
  obtain ⟨hm, hf⟩ := bound_fixed hb
  unfold moreP
  by_cases ht : mayT t = true
  · rw [if_pos ⟨rfl, hm, ht⟩, fixed_match _ p hf (snd_of_may hm) t (snd_of_may ht)]
    by_cases e : p = t
    · rw [if_pos (eqT_iff.2 e), if_pos (eqT_iff.2 e)]; rfl
    · rw [if_neg (by rw [eqT_iff]; exact e), if_neg (by rw [eqT_iff]; exact e)]; rfl
  · rw [if_neg (fun h => ht h.2.2), if_neg (by rw [eqT_iff]; intro e; rw [e] at hm; exact ht hm)]
theorem filled_fixed {p : Tm} (hb : boundT p = true) : filledF p [] = some p := by
  obtain ⟨hm, hf⟩ := bound_fixed hb
  unfold filledF
  rw [if_pos ⟨rfl, hm⟩, fixed_fill _ p hf]
  show (if mayT p = true then some p else none) = _
  rw [if_pos hm]
end Go.Proofs.Ytlaplakaifmpeaa.Pt
