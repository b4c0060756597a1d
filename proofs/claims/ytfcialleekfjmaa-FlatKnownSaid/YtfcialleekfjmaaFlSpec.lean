/- Plain: the words of a term, the term of words; no program in sight. -/
import Derived.Test.YtfcialleekfjmaaChkSpec
import Derived.Test.YtfcialleekfjmaaWordSpec
import Derived.Test.YtfcialleekfjmaaAtomSpec
namespace Go.Proofs.Ytfcialleekfjmaa.Fl
open Go.RowKit K Wd At
set_option linter.unusedVariables false
set_option linter.unusedSimpArgs false

/-! ### The numbers that atoms get -/
mutual
/-- The atoms of a term get numbers, in turn; whether each gets one, and which atoms there are then. -/
def nums : Tm → List ByteArray → Bool × List ByteArray
  | .mk k n s l, L => if k = 2 then (decide (inE L s = 0), inL L s) else numsL l L
def numsL : List Tm → List ByteArray → Bool × List ByteArray
  | [], L => (true, L)
  | u :: r, L => if (nums u L).1 = true then numsL r (nums u L).2 else (false, (nums u L).2)
end
theorem nums_mk (k n : Int) (s : ByteArray) (l : List Tm) (L : List ByteArray) : nums (.mk k n s l) L = if k = 2 then (decide (inE L s = 0), inL L s) else numsL l L := by rw [nums]
theorem numsL_nil (L : List ByteArray) : numsL [] L = (true, L) := by rw [numsL]
theorem numsL_cons (u : Tm) (r : List Tm) (L : List ByteArray) : numsL (u :: r) L = if (nums u L).1 = true then numsL r (nums u L).2 else (false, (nums u L).2) := by rw [numsL]
theorem numsL_append (l m : List Tm) (L : List ByteArray) : numsL (l ++ m) L = if (numsL l L).1 = true then numsL m (numsL l L).2 else (false, (numsL l L).2) := by
  induction l generalizing L with
  | nil => rw [numsL_nil]; rfl
  | cons u r ih =>
    rw [List.cons_append, numsL_cons, numsL_cons]
    cases h : (nums u L).1 with
    | true => simp only [if_true]; exact ih _
    | false => simp
theorem numsL_snoc {l : List Tm} {i : Nat} {u : Tm} (L : List ByteArray) (h : l[i]? = some u) (hok : (numsL (l.take i) L).1 = true) : numsL (l.take (i + 1)) L = nums u (numsL (l.take i) L).2 := by
  rw [take_snoc_of h, numsL_append, if_pos hok, numsL_cons, numsL_nil]
  cases hx : (nums u (numsL (l.take i) L).2).1 with
  | true => simp only [if_true]; exact Prod.ext hx.symm rfl
  | false => simp only [Bool.false_eq_true, if_false]; exact Prod.ext hx.symm rfl
theorem numsL_stop {l : List Tm} {i : Nat} {u : Tm} {L : List ByteArray} (h : l[i]? = some u) (hok : (numsL (l.take i) L).1 = true) (hno : (nums u (numsL (l.take i) L).2).1 = false) : numsL l L = (false, (nums u (numsL (l.take i) L).2).2) := by
  have h1 := numsL_snoc L h hok
  have h2 := numsL_append (l.take (i + 1)) (l.drop (i + 1)) L
  rw [List.take_append_drop] at h2
  rw [h2, h1, hno]
  rfl
theorem inL_ext (L : List ByteArray) (s : ByteArray) : ∃ x, inL L s = L ++ x := by
  unfold inL
  split
  · exact ⟨[], by simp⟩
  · split
    · exact ⟨[], by simp⟩
    · split
      · exact ⟨[], by simp⟩
      · exact ⟨[s], rfl⟩
theorem nums_ext : ∀ t L, ∃ x, (nums t L).2 = L ++ x := by
  refine Tm.ind fun t ih L => ?_
  obtain ⟨k, n, s, l⟩ := t
  simp only [Tm.l_mk] at ih
  rw [nums_mk]
  split
  · exact inL_ext L s
  · induction l generalizing L with
    | nil => rw [numsL_nil]; exact ⟨[], by simp⟩
    | cons u r ih2 =>
      rw [numsL_cons]
      obtain ⟨x, hx⟩ := ih u (by simp) L
      split
      · obtain ⟨y, hy⟩ := ih2 (nums u L).2 (fun v hv => ih v (List.mem_cons_of_mem _ hv))
        exact ⟨x ++ y, by rw [hy, hx, List.append_assoc]⟩
      · exact ⟨x, hx⟩
theorem numsL_ext (l : List Tm) : ∀ L, ∃ x, (numsL l L).2 = L ++ x := by
  induction l with
  | nil => exact fun L => ⟨[], by rw [numsL_nil]; simp⟩
  | cons u r ih =>
    intro L
    rw [numsL_cons]
    obtain ⟨x, hx⟩ := nums_ext u L
    split
    · obtain ⟨y, hy⟩ := ih (nums u L).2
      exact ⟨x ++ y, by rw [hy, hx, List.append_assoc]⟩
    · exact ⟨x, hx⟩
mutual
/-- The texts of a term's atoms. -/
def atoms : Tm → List ByteArray
  | .mk k n s l => if k = 2 then [s] else atomsL l
def atomsL : List Tm → List ByteArray
  | [] => []
  | u :: r => atoms u ++ atomsL r
end
theorem atoms_mk (k n : Int) (s : ByteArray) (l : List Tm) : atoms (.mk k n s l) = if k = 2 then [s] else atomsL l := by rw [atoms]
theorem atomsL_nil : atomsL [] = [] := by rw [atomsL]
theorem atomsL_cons (u : Tm) (r : List Tm) : atomsL (u :: r) = atoms u ++ atomsL r := by rw [atomsL]
theorem atomsL_append (l m : List Tm) : atomsL (l ++ m) = atomsL l ++ atomsL m := by
  induction l with
  | nil => rw [atomsL_nil]; rfl
  | cons u r ih => rw [List.cons_append, atomsL_cons, atomsL_cons, ih, List.append_assoc]
theorem atomsL_mem {l : List Tm} {u : Tm} (hu : u ∈ l) {s : ByteArray} (hs : s ∈ atoms u) : s ∈ atomsL l := by
  induction l with
  | nil => cases hu
  | cons v r ih =>
    rw [atomsL_cons, List.mem_append]
    rcases List.mem_cons.1 hu with rfl | hu
    · exact .inl hs
    · exact .inr (ih hu)
theorem inE_in {L : List ByteArray} {s : ByteArray} (h : inE L s = 0) : s ∈ inL L s := by
  unfold inE at h
  unfold inL
  split at h
  · cases h
  · rename_i h64
    rw [if_neg h64]
    split at h
    · rename_i hm; rw [if_pos hm]; exact hm
    · rename_i hm
      rw [if_neg hm]
      split at h
      · cases h
      · rename_i hf; rw [if_neg hf]; simp
theorem inN_idx {L : List ByteArray} {s : ByteArray} (h : inE L s = 0) : inN L s = (idx (inL L s) s : Int) := by
  unfold inE at h
  unfold inN inL
  split at h
  · cases h
  · rename_i h64
    rw [if_neg h64, if_neg h64]
    split at h
    · rename_i hm; rw [if_pos hm, if_pos hm]
    · rename_i hm
      rw [if_neg hm, if_neg hm]
      split at h
      · cases h
      · rename_i hf; rw [if_neg hf, if_neg hf, idx_append_new hm]
theorem nums_in : ∀ t L, (nums t L).1 = true → ∀ s ∈ atoms t, s ∈ (nums t L).2 := by
  refine Tm.ind fun t ih L h => ?_
  obtain ⟨k, n, s, l⟩ := t
  simp only [Tm.l_mk] at ih
  rw [nums_mk] at h
  rw [nums_mk, atoms_mk]
  by_cases h2 : k = 2
  · rw [if_pos h2] at h ⊢
    rw [if_pos h2]
    intro x hx
    simp at hx
    subst hx
    exact inE_in (of_decide_eq_true h)
  · rw [if_neg h2] at h ⊢
    rw [if_neg h2]
    induction l generalizing L with
    | nil => intro x hx; rw [atomsL_nil] at hx; cases hx
    | cons u r ih2 =>
      rw [numsL_cons] at h ⊢
      by_cases hu : (nums u L).1 = true
      · rw [if_pos hu] at h ⊢
        intro x hx
        rw [atomsL_cons, List.mem_append] at hx
        rcases hx with hx | hx
        · have h1 := ih u (by simp) L hu x hx
          obtain ⟨y, hy⟩ := numsL_ext r (nums u L).2
          rw [hy]; simp [h1]
        · exact ih2 _ (fun v hv => ih v (List.mem_cons_of_mem _ hv)) h x hx
      · rw [if_neg hu] at h; cases h
theorem numsL_in {l : List Tm} {L : List ByteArray} (h : (numsL l L).1 = true) : ∀ s ∈ atomsL l, s ∈ (numsL l L).2 := by
  have := nums_in (.mk 7 0 ⟨#[]⟩ l) L
  rw [nums_mk, atoms_mk, if_neg (by decide), if_neg (by decide)] at this
  exact this h
/-- Atoms that are there get the numbers that they have. -/
theorem nums_there : ∀ t L, (∀ s ∈ atoms t, s ∈ L) → (∀ s ∈ L, s.size ≤ 64) → nums t L = (true, L) := by
  refine Tm.ind fun t ih L h hL => ?_
  obtain ⟨k, n, s, l⟩ := t
  simp only [Tm.l_mk] at ih
  rw [atoms_mk] at h
  rw [nums_mk]
  by_cases h2 : k = 2
  · rw [if_pos h2] at h ⊢
    have hm := h s (by simp)
    have h64 : ¬ 64 < s.size := by have := hL s hm; omega
    unfold inE inL
    rw [if_neg h64, if_neg h64, if_pos hm, if_pos hm]
    rfl
  · rw [if_neg h2] at h ⊢
    induction l with
    | nil => rw [numsL_nil]
    | cons u r ih2 =>
      rw [atomsL_cons] at h
      rw [numsL_cons, ih u (by simp) L (fun s hs => h s (by simp [hs])) hL]
      simp only [if_true]
      exact ih2 (fun v hv => ih v (by simp [hv])) (fun s hs => h s (by simp [hs]))
/-- The number of each text, of a list of atoms. -/
def ix (L : List ByteArray) (s : ByteArray) : Int := (idx L s : Int)
theorem ix_ext {L M : List ByteArray} {s : ByteArray} (hs : s ∈ L) (h : ∃ x, M = L ++ x) : ix M s = ix L s := by
  obtain ⟨x, rfl⟩ := h
  unfold ix
  rw [idx_append_mem hs]

/-! ### The words of a term -/
def boxK (k : Int) : Prop := k = 7 ∨ k = 5 ∨ k = 9
instance (k : Int) : Decidable (boxK k) := by unfold boxK; infer_instance
/-- A term's own word: f numbers atoms, p is where it is laid, if it is boxed. -/
def ownW (f : ByteArray → Int) (t : Tm) (p : Nat) : Int := packW t.k (if t.k = 2 then f t.s else if boxK t.k then (p : Int) else t.n)
theorem ownW_mk (f : ByteArray → Int) (k n : Int) (s : ByteArray) (l : List Tm) (p : Nat) : ownW f (.mk k n s l) p = packW k (if k = 2 then f s else if boxK k then (p : Int) else n) := rfl
/-- The head of a boxed one. -/
def hd (k n : Int) (m : Nat) : List Int := if k = 7 then [packW 10 (m : Int)] else if k = 5 then [packW 11 (n * 128 + (m : Int))] else []
mutual
/-- What is laid of a term, from place p on. -/
def lay (f : ByteArray → Int) : Tm → Nat → List Int
  | .mk k n s l, p => if boxK k then hd k n l.length ++ ((layP f l (p + (hd k n l.length).length + l.length)).1 ++ (layP f l (p + (hd k n l.length).length + l.length)).2) else []
/-- The own words of parts, and what is laid of them. -/
def layP (f : ByteArray → Int) : List Tm → Nat → List Int × List Int
  | [], p => ([], [])
  | u :: r, p => (ownW f u p :: (layP f r (p + (lay f u p).length)).1, lay f u p ++ (layP f r (p + (lay f u p).length)).2)
end
theorem lay_mk (f : ByteArray → Int) (k n : Int) (s : ByteArray) (l : List Tm) (p : Nat) : lay f (.mk k n s l) p = if boxK k then hd k n l.length ++ ((layP f l (p + (hd k n l.length).length + l.length)).1 ++ (layP f l (p + (hd k n l.length).length + l.length)).2) else [] := by rw [lay]
theorem layP_nil (f : ByteArray → Int) (p : Nat) : layP f [] p = ([], []) := by rw [layP]
theorem layP_cons (f : ByteArray → Int) (u : Tm) (r : List Tm) (p : Nat) : layP f (u :: r) p = (ownW f u p :: (layP f r (p + (lay f u p).length)).1, lay f u p ++ (layP f r (p + (lay f u p).length)).2) := by rw [layP]
theorem layP_append (f : ByteArray → Int) (l m : List Tm) (p : Nat) : layP f (l ++ m) p = ((layP f l p).1 ++ (layP f m (p + (layP f l p).2.length)).1, (layP f l p).2 ++ (layP f m (p + (layP f l p).2.length)).2) := by
  induction l generalizing p with
  | nil => rw [layP_nil]; rfl
  | cons u r ih =>
    rw [List.cons_append, layP_cons, layP_cons, ih]
    simp only [List.length_append, Nat.add_assoc, List.cons_append, List.append_assoc]
theorem layP_snoc (f : ByteArray → Int) {l : List Tm} {i : Nat} {u : Tm} (p : Nat) (h : l[i]? = some u) : layP f (l.take (i + 1)) p = ((layP f (l.take i) p).1 ++ [ownW f u (p + (layP f (l.take i) p).2.length)], (layP f (l.take i) p).2 ++ lay f u (p + (layP f (l.take i) p).2.length)) := by
  rw [take_snoc_of h, layP_append, layP_cons, layP_nil]
  simp
theorem layP_len1 (f : ByteArray → Int) (l : List Tm) (p : Nat) : (layP f l p).1.length = l.length := by
  induction l generalizing p with
  | nil => rw [layP_nil]; rfl
  | cons u r ih => rw [layP_cons]; simp [ih]
theorem hd_len (k n : Int) (m : Nat) : ((hd k n m).length : Int) = if k = 7 ∨ k = 5 then 1 else 0 := by
  unfold hd
  by_cases h7 : k = 7
  · simp [h7]
  · by_cases h5 : k = 5
    · simp [h5]
    · simp [h7, h5]
theorem boxK_has (t : Tm) : hasB t = true ↔ boxK t.k := by unfold hasB boxK; simp
theorem lay_len (f : ByteArray → Int) : ∀ t p, ((lay f t p).length : Int) + 1 = wds t := by
  refine Tm.ind fun t ih p => ?_
  have hl : ∀ (l : List Tm), (∀ u ∈ l, u ∈ t.l) → ∀ p, ((layP f l p).2.length : Int) + l.length = wdsL l := fun l => by
    induction l with
    | nil => intro _ p; rw [layP_nil, wdsL_nil]; rfl
    | cons u r ihr =>
      intro hm p
      have h1 := ih u (hm u (by simp)) p
      have h2 := ihr (fun v hv => hm v (by simp [hv])) (p + (lay f u p).length)
      rw [layP_cons, wdsL_cons]
      simp only [List.length_append, List.length_cons]
      omega
  obtain ⟨k, n, s, l⟩ := t
  rw [lay_mk, wds_mk]
  by_cases hb : boxK k
  · rw [if_pos hb, if_pos ((boxK_has (.mk k n s l)).2 hb)]
    have h1 := hl l (fun u hu => hu) (p + (hd k n l.length).length + l.length)
    have h2 := hd_len k n l.length
    have h3 := layP_len1 f l (p + (hd k n l.length).length + l.length)
    simp only [List.length_append]
    unfold ownN
    simp only [Tm.k_mk]
    have h4 : (if k = 7 ∨ k = 5 then (1 : Int) else 0) + 1 = if k = 7 ∨ k = 5 then 2 else 1 := by split <;> rfl
    omega
  · rw [if_neg hb, if_neg (fun h => hb ((boxK_has (.mk k n s l)).1 h))]
    unfold boxK at hb
    have h0 : ownN (.mk k n s l) = 1 := by unfold ownN; rw [if_neg (by simp only [Tm.k_mk]; omega)]
    rw [h0]
    rfl
/-- Only the atoms' numbers count. -/
theorem lay_congr {f f' : ByteArray → Int} : ∀ t, (∀ s ∈ atoms t, f s = f' s) → ∀ p, ownW f t p = ownW f' t p ∧ lay f t p = lay f' t p := by
  refine Tm.ind fun t ih h p => ?_
  obtain ⟨k, n, s, l⟩ := t
  simp only [Tm.l_mk] at ih
  rw [atoms_mk] at h
  constructor
  · rw [ownW_mk, ownW_mk]
    by_cases h2 : k = 2
    · rw [if_pos h2, if_pos h2]
      rw [if_pos h2] at h
      rw [h s (by simp)]
    · rw [if_neg h2, if_neg h2]
  · rw [lay_mk, lay_mk]
    by_cases hb : boxK k
    · rw [if_pos hb, if_pos hb]
      rw [if_neg (by unfold boxK at hb; omega)] at h
      have hl : ∀ (r : List Tm), (∀ u ∈ r, u ∈ l) → ∀ q, layP f r q = layP f' r q := fun r => by
        induction r with
        | nil => intro _ q; rw [layP_nil, layP_nil]
        | cons u r ihr =>
          intro hm q
          have h1 := ih u (hm u (by simp)) (fun s hs => h s (atomsL_mem (hm u (by simp)) hs)) q
          rw [layP_cons, layP_cons, h1.1, h1.2, ihr (fun v hv => hm v (by simp [hv]))]
      rw [hl l (fun u hu => hu)]
    · rw [if_neg hb, if_neg hb]
theorem layP_congr {f f' : ByteArray → Int} (l : List Tm) (h : ∀ s ∈ atomsL l, f s = f' s) : ∀ p, layP f l p = layP f' l p := by
  induction l with
  | nil => intro p; rw [layP_nil, layP_nil]
  | cons u r ih =>
    intro p
    rw [atomsL_cons] at h
    have h1 := lay_congr u (fun s hs => h s (by simp [hs])) p
    rw [layP_cons, layP_cons, h1.1, h1.2, ih (fun s hs => h s (by simp [hs]))]
/-- A term's words. -/
def flat (f : ByteArray → Int) (t : Tm) : List Int := ownW f t 1 :: lay f t 1
theorem flat_len (f : ByteArray → Int) (t : Tm) : ((Fl.flat f t).length : Int) = wds t := by
  have := lay_len f t 1
  unfold Fl.flat
  simp only [List.length_cons]
  omega
/-- Flatten: the error, the atoms, the words. -/
def flE (L : List ByteArray) (t : Tm) : Int := if chk t = 0 then (if (nums t L).1 = true then 0 else 8) else chk t
def flL (L : List ByteArray) (t : Tm) : List ByteArray := if chk t = 0 then (nums t L).2 else L
def flW (L : List ByteArray) (t : Tm) : List Int := if flE L t = 0 then Fl.flat (ix (nums t L).2) t else []
theorem ownW_range (f : ByteArray → Int) (t : Tm) (p : Nat) : 0 ≤ ownW f t p ∧ ownW f t p < 18446744073709551616 := packW_range _ _
end Go.Proofs.Ytfcialleekfjmaa.Fl
