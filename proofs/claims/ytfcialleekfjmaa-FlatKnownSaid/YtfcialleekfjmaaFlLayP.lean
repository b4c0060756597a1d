/- What the rounds of Flatten's closure leave in the row, plain. -/
import Derived.Test.YtfcialleekfjmaaFlSpec
namespace Go.Proofs.Ytfcialleekfjmaa.Fl
open Go.RowKit K At
set_option linter.unusedVariables false
set_option linter.unusedSimpArgs false

/-- The row with the first i parts laid. -/
def mid (f : ByteArray → Int) (O : List Int) (k n : Int) (l : List Tm) (i : Nat) : List Int :=
  (O ++ hd k n l.length ++ (layP f (l.take i) (O.length + (hd k n l.length).length + l.length)).1) ++ (List.replicate (l.length - i) 0 ++ (layP f (l.take i) (O.length + (hd k n l.length).length + l.length)).2)
theorem mid_zero (f : ByteArray → Int) (O : List Int) (k n : Int) (l : List Tm) : mid f O k n l 0 = (O ++ hd k n l.length) ++ List.replicate l.length 0 := by
  unfold mid
  rw [List.take_zero, layP_nil]
  simp
theorem mid_len (f : ByteArray → Int) (O : List Int) (k n : Int) (l : List Tm) {i : Nat} (hi : i ≤ l.length) : (mid f O k n l i).length = O.length + (hd k n l.length).length + l.length + (layP f (l.take i) (O.length + (hd k n l.length).length + l.length)).2.length := by
  unfold mid
  simp only [List.length_append, List.length_replicate, layP_len1, List.length_take]
  omega
theorem set_mid (X R : List Int) (y z : Int) : (X ++ (y :: R)).set X.length z = X ++ (z :: R) := by
  rw [List.set_append_right _ _ (Nat.le_refl _)]
  simp
theorem mid_step {f f' : ByteArray → Int} (O : List Int) (k n : Int) {l : List Tm} {i : Nat} {u : Tm} (hu : l[i]? = some u) (hf : ∀ s ∈ atomsL (l.take i), f s = f' s) :
    (mid f O k n l i ++ lay f' u (mid f O k n l i).length).set (O.length + (hd k n l.length).length + i) (ownW f' u (mid f O k n l i).length) = mid f' O k n l (i + 1) := by
  have hi := (List.getElem?_eq_some_iff.1 hu).1
  rw [mid_len f O k n l (by omega)]
  unfold mid
  have hc := layP_congr (l.take i) hf (O.length + (hd k n l.length).length + l.length)
  rw [hc, layP_snoc f' _ hu]
  obtain ⟨m, hm⟩ : ∃ m, l.length - i = m + 1 := ⟨l.length - i - 1, by omega⟩
  have hm2 : l.length - (i + 1) = m := by omega
  rw [hm, hm2]
  have hX : (O ++ hd k n l.length ++ (layP f' (l.take i) (O.length + (hd k n l.length).length + l.length)).1).length = O.length + (hd k n l.length).length + i := by
    simp only [List.length_append, layP_len1, List.length_take]
    omega
  have key : ∀ (X R Z : List Int) (y z : Int), (X ++ (y :: R) ++ Z).set X.length z = X ++ (z :: (R ++ Z)) := fun X R Z y z => by rw [List.append_assoc, List.cons_append, set_mid]
  rw [← hX, List.replicate_succ, List.cons_append, key]
  simp only [List.append_assoc, List.cons_append, List.nil_append]
theorem mid_end (f : ByteArray → Int) (O : List Int) (k n : Int) (s : ByteArray) (l : List Tm) (hb : boxK k) : mid f O k n l l.length = O ++ lay f (.mk k n s l) O.length := by
  unfold mid
  rw [lay_mk, if_pos hb, List.take_length]
  simp
theorem wdsL_len (l : List Tm) : (l.length : Int) ≤ wdsL l := by
  induction l with
  | nil => rw [wdsL_nil]; simp
  | cons u r ih => rw [wdsL_cons]; have := (wds_range u).1; simp; omega
theorem layP_len2 (f : ByteArray → Int) (l : List Tm) : ∀ p, ((layP f l p).2.length : Int) + l.length = wdsL l := by
  induction l with
  | nil => intro p; rw [layP_nil, wdsL_nil]; rfl
  | cons u r ih =>
    intro p
    rw [layP_cons, wdsL_cons]
    have h1 := lay_len f u p
    have h2 := ih (p + (lay f u p).length)
    simp only [List.length_append, List.length_cons]
    omega
theorem mid_bound (f : ByteArray → Int) (O : List Int) (k n : Int) (s : ByteArray) {l : List Tm} {i : Nat} {u : Tm} (hb : boxK k) (hu : l[i]? = some u) : ((mid f O k n l i).length : Int) + wds u ≤ O.length + wds (.mk k n s l) := by
  have hi := (List.getElem?_eq_some_iff.1 hu).1
  rw [mid_len f O k n l (by omega)]
  have h1 := layP_len2 f (l.take i) (O.length + (hd k n l.length).length + l.length)
  have h2 : wdsL l = wdsL (l.take (i + 1)) + wdsL (l.drop (i + 1)) := by rw [← wdsL_append, List.take_append_drop]
  rw [wdsL_take_succ hu] at h2
  have h3 := wdsL_len (l.drop (i + 1))
  rw [List.length_drop] at h3
  have h4 := hd_len k n l.length
  rw [List.length_take] at h1
  rw [wds_mk, if_pos ((boxK_has (.mk k n s l)).2 hb)]
  have h5 : ownN (.mk k n s l) = (if k = 7 ∨ k = 5 then 1 else 0) + 1 := by
    by_cases hk : k = 7 ∨ k = 5
    · rw [if_pos hk]; unfold ownN; rw [if_pos (show (Tm.mk k n s l).k = 7 ∨ (Tm.mk k n s l).k = 5 from hk)]; rfl
    · rw [if_neg hk]; unfold ownN; rw [if_neg (show ¬((Tm.mk k n s l).k = 7 ∨ (Tm.mk k n s l).k = 5) from hk)]; rfl
  omega
end Go.Proofs.Ytfcialleekfjmaa.Fl
