/- Plain: the words of a term, the term of words; no program in sight. Plain: the term of words. Plain: what is read may be, and is written as it was; what is written is read as it was. -/
import Derived.Test.YtnedjmjcbmoknaaChkSpec
import Derived.Test.YtnedjmjcbmoknaaWordSpec
import Derived.Test.YtnedjmjcbmoknaaAtomSpec
namespace Go.Proofs.Ytnedjmjcbmoknaa.Fl
open Go.RowKit K Wd At
set_option linter.unusedVariables false
set_option linter.unusedSimpArgs false
/-! ### The numbers that atoms get -/
mutual
/-- The atoms of a term get numbers, in turn; whether each gets one, and which atoms there are then. -/
def nums : Tm → List ByteArray → Bool × List ByteArray
  | .mk k n s l, L => if k = 2 then (decide (inE L s = 0), inL L s) else numsL l L
def numsL : List Tm → List ByteArray → Bool × List ByteArray
  | [], L => (true, L)
  | u :: r, L => if (nums u L).1 = true then numsL r (nums u L).2 else (false, (nums u L).2)
end
theorem nums_mk (k n : Int) (s : ByteArray) (l : List Tm) (L : List ByteArray) : nums (.mk k n s l) L = if k = 2 then (decide (inE L s = 0), inL L s) else numsL l L := by rw [nums]
theorem numsL_nil (L : List ByteArray) : numsL [] L = (true, L) := by rw [numsL]
theorem numsL_cons (u : Tm) (r : List Tm) (L : List ByteArray) : numsL (u :: r) L = if (nums u L).1 = true then numsL r (nums u L).2 else (false, (nums u L).2) := by rw [numsL]
theorem numsL_append (l m : List Tm) (L : List ByteArray) : numsL (l ++ m) L = if (numsL l L).1 = true then numsL m (numsL l L).2 else (false, (numsL l L).2) := by
  induction l generalizing L with
  | nil => rw [numsL_nil]; rfl
  | cons u r ih =>
    rw [List.cons_append, numsL_cons, numsL_cons]
    cases h : (nums u L).1 with
    | true => simp only [if_true]; exact ih _
    | false => simp
theorem numsL_snoc {l : List Tm} {i : Nat} {u : Tm} (L : List ByteArray) (h : l[i]? = some u) (hok : (numsL (l.take i) L).1 = true) : numsL (l.take (i + 1)) L = nums u (numsL (l.take i) L).2 := by
  rw [take_snoc_of h, numsL_append, if_pos hok, numsL_cons, numsL_nil]
  cases hx : (nums u (numsL (l.take i) L).2).1 with
  | true => simp only [if_true]; exact Prod.ext hx.symm rfl
  | false => simp only [Bool.false_eq_true, if_false]; exact Prod.ext hx.symm rfl
theorem numsL_stop {l : List Tm} {i : Nat} {u : Tm} {L : List ByteArray} (h : l[i]? = some u) (hok : (numsL (l.take i) L).1 = true) (hno : (nums u (numsL (l.take i) L).2).1 = false) : numsL l L = (false, (nums u (numsL (l.take i) L).2).2) := by
  have h1 := numsL_snoc L h hok
  have h2 := numsL_append (l.take (i + 1)) (l.drop (i + 1)) L
  rw [List.take_append_drop] at h2
  rw [h2, h1, hno]
  rfl
theorem inL_ext (L : List ByteArray) (s : ByteArray) : ∃ x, inL L s = L ++ x := by
  unfold inL
  split
  · exact ⟨[], by simp⟩
  · split
    · exact ⟨[], by simp⟩
    · split
      · exact ⟨[], by simp⟩
      · exact ⟨[s], rfl⟩
theorem nums_ext : ∀ t L, ∃ x, (nums t L).2 = L ++ x := by
  refine Tm.ind fun t ih L => ?_
  obtain ⟨k, n, s, l⟩ := t
  simp only [Tm.l_mk] at ih
  rw [nums_mk]
  split
  · exact inL_ext L s
  · induction l generalizing L with
    | nil => rw [numsL_nil]; exact ⟨[], by simp⟩
    | cons u r ih2 =>
      rw [numsL_cons]
      obtain ⟨x, hx⟩ := ih u (by simp) L
      split
      · obtain ⟨y, hy⟩ := ih2 (nums u L).2 (fun v hv => ih v (List.mem_cons_of_mem _ hv))
        exact ⟨x ++ y, by rw [hy, hx, List.append_assoc]⟩
      · exact ⟨x, hx⟩
theorem numsL_ext (l : List Tm) : ∀ L, ∃ x, (numsL l L).2 = L ++ x := by
  induction l with
  | nil => exact fun L => ⟨[], by rw [numsL_nil]; simp⟩
  | cons u r ih =>
    intro L
    rw [numsL_cons]
    obtain ⟨x, hx⟩ := nums_ext u L
    split
    · obtain ⟨y, hy⟩ := ih (nums u L).2
      exact ⟨x ++ y, by rw [hy, hx, List.append_assoc]⟩
    · exact ⟨x, hx⟩
mutual
/-- The texts of a term's atoms. -/
def atoms : Tm → List ByteArray
  | .mk k n s l => if k = 2 then [s] else atomsL l
def atomsL : List Tm → List ByteArray
  | [] => []
  | u :: r => atoms u ++ atomsL r
end
theorem atoms_mk (k n : Int) (s : ByteArray) (l : List Tm) : atoms (.mk k n s l) = if k = 2 then [s] else atomsL l := by rw [atoms]
theorem atomsL_nil : atomsL [] = [] := by rw [atomsL]
theorem atomsL_cons (u : Tm) (r : List Tm) : atomsL (u :: r) = atoms u ++ atomsL r := by rw [atomsL]
theorem atomsL_append (l m : List Tm) : atomsL (l ++ m) = atomsL l ++ atomsL m := by
  induction l with
  | nil => rw [atomsL_nil]; rfl
  | cons u r ih => rw [List.cons_append, atomsL_cons, atomsL_cons, ih, List.append_assoc]
theorem atomsL_mem {l : List Tm} {u : Tm} (hu : u ∈ l) {s : ByteArray} (hs : s ∈ atoms u) : s ∈ atomsL l := by
  induction l with
  | nil => cases hu
  | cons v r ih =>
    rw [atomsL_cons, List.mem_append]
    rcases List.mem_cons.1 hu with rfl | hu
    · exact .inl hs
    · exact .inr (ih hu)
theorem inE_in {L : List ByteArray} {s : ByteArray} (h : inE L s = 0) : s ∈ inL L s := by
  unfold inE at h
  unfold inL
  split at h
  · cases h
  · rename_i h64
    rw [if_neg h64]
    split at h
    · rename_i hm; rw [if_pos hm]; exact hm
    · rename_i hm
      rw [if_neg hm]
      split at h
      · cases h
      · rename_i hf; rw [if_neg hf]; simp
theorem inN_idx {L : List ByteArray} {s : ByteArray} (h : inE L s = 0) : inN L s = (idx (inL L s) s : Int) := by
  unfold inE at h
  unfold inN inL
  split at h
  · cases h
  · rename_i h64
    rw [if_neg h64, if_neg h64]
    split at h
    · rename_i hm; rw [if_pos hm, if_pos hm]
    · rename_i hm
      rw [if_neg hm, if_neg hm]
      split at h
      · cases h
      · rename_i hf; rw [if_neg hf, if_neg hf, idx_append_new hm]
theorem nums_in : ∀ t L, (nums t L).1 = true → ∀ s ∈ atoms t, s ∈ (nums t L).2 := by
  refine Tm.ind fun t ih L h => ?_
  obtain ⟨k, n, s, l⟩ := t
  simp only [Tm.l_mk] at ih
  rw [nums_mk] at h
  rw [nums_mk, atoms_mk]
  by_cases h2 : k = 2
  · rw [if_pos h2] at h ⊢
    rw [if_pos h2]
    intro x hx
    simp at hx
    subst hx
    exact inE_in (of_decide_eq_true h)
  · rw [if_neg h2] at h ⊢
    rw [if_neg h2]
    induction l generalizing L with
    | nil => intro x hx; rw [atomsL_nil] at hx; cases hx
    | cons u r ih2 =>
      rw [numsL_cons] at h ⊢
      by_cases hu : (nums u L).1 = true
      · rw [if_pos hu] at h ⊢
        intro x hx
        rw [atomsL_cons, List.mem_append] at hx
        rcases hx with hx | hx
        · have h1 := ih u (by simp) L hu x hx
          obtain ⟨y, hy⟩ := numsL_ext r (nums u L).2
          rw [hy]; simp [h1]
        · exact ih2 _ (fun v hv => ih v (List.mem_cons_of_mem _ hv)) h x hx
      · rw [if_neg hu] at h; cases h
theorem numsL_in {l : List Tm} {L : List ByteArray} (h : (numsL l L).1 = true) : ∀ s ∈ atomsL l, s ∈ (numsL l L).2 := by
  have := nums_in (.mk 7 0 ⟨#[]⟩ l) L
  rw [nums_mk, atoms_mk, if_neg (by decide), if_neg (by decide)] at this
  exact this h
/-- Atoms that are there get the numbers that they have. -/
theorem nums_there : ∀ t L, (∀ s ∈ atoms t, s ∈ L) → (∀ s ∈ L, s.size ≤ 64) → nums t L = (true, L) := by
  refine Tm.ind fun t ih L h hL => ?_
  obtain ⟨k, n, s, l⟩ := t
  simp only [Tm.l_mk] at ih
  rw [atoms_mk] at h
  rw [nums_mk]
  by_cases h2 : k = 2
  · rw [if_pos h2] at h ⊢
    have hm := h s (by simp)
    have h64 : ¬ 64 < s.size := by have := hL s hm; omega
    unfold inE inL
    rw [if_neg h64, if_neg h64, if_pos hm, if_pos hm]
    rfl
  · rw [if_neg h2] at h ⊢
    induction l with
    | nil => rw [numsL_nil]
    | cons u r ih2 =>
      rw [atomsL_cons] at h
      rw [numsL_cons, ih u (by simp) L (fun s hs => h s (by simp [hs])) hL]
      simp only [if_true]
      exact ih2 (fun v hv => ih v (by simp [hv])) (fun s hs => h s (by simp [hs]))
/-- The number of each text, of a list of atoms. -/
def ix (L : List ByteArray) (s : ByteArray) : Int := (idx L s : Int)
theorem ix_ext {L M : List ByteArray} {s : ByteArray} (hs : s ∈ L) (h : ∃ x, M = L ++ x) : ix M s = ix L s := by
  obtain ⟨x, rfl⟩ := h
  unfold ix
  rw [idx_append_mem hs]

/-! ### The words of a term -/
def boxK (k : Int) : Prop := k = 7 ∨ k = 5 ∨ k = 9
instance (k : Int) : Decidable (boxK k) := by unfold boxK; infer_instance
/-- A term's own word: f numbers atoms, p is where it is laid, if it is boxed. -/
def ownW (f : ByteArray → Int) (t : Tm) (p : Nat) : Int := packW t.k (if t.k = 2 then f t.s else if boxK t.k then (p : Int) else t.n)
theorem ownW_mk (f : ByteArray → Int) (k n : Int) (s : ByteArray) (l : List Tm) (p : Nat) : ownW f (.mk k n s l) p = packW k (if k = 2 then f s else if boxK k then (p : Int) else n) := rfl
/-- The head of a boxed one. -/
def hd (k n : Int) (m : Nat) : List Int := if k = 7 then [packW 10 (m : Int)] else if k = 5 then [packW 11 (n * 128 + (m : Int))] else []
mutual
/-- What is laid of a term, from place p on. -/
def lay (f : ByteArray → Int) : Tm → Nat → List Int
  | .mk k n s l, p => if boxK k then hd k n l.length ++ ((layP f l (p + (hd k n l.length).length + l.length)).1 ++ (layP f l (p + (hd k n l.length).length + l.length)).2) else []
/-- The own words of parts, and what is laid of them. -/
def layP (f : ByteArray → Int) : List Tm → Nat → List Int × List Int
  | [], p => ([], [])
  | u :: r, p => (ownW f u p :: (layP f r (p + (lay f u p).length)).1, lay f u p ++ (layP f r (p + (lay f u p).length)).2)
end
theorem lay_mk (f : ByteArray → Int) (k n : Int) (s : ByteArray) (l : List Tm) (p : Nat) : lay f (.mk k n s l) p = if boxK k then hd k n l.length ++ ((layP f l (p + (hd k n l.length).length + l.length)).1 ++ (layP f l (p + (hd k n l.length).length + l.length)).2) else [] := by rw [lay]
theorem layP_nil (f : ByteArray → Int) (p : Nat) : layP f [] p = ([], []) := by rw [layP]
theorem layP_cons (f : ByteArray → Int) (u : Tm) (r : List Tm) (p : Nat) : layP f (u :: r) p = (ownW f u p :: (layP f r (p + (lay f u p).length)).1, lay f u p ++ (layP f r (p + (lay f u p).length)).2) := by rw [layP]
theorem layP_append (f : ByteArray → Int) (l m : List Tm) (p : Nat) : layP f (l ++ m) p = ((layP f l p).1 ++ (layP f m (p + (layP f l p).2.length)).1, (layP f l p).2 ++ (layP f m (p + (layP f l p).2.length)).2) := by
  induction l generalizing p with
  | nil => rw [layP_nil]; rfl
  | cons u r ih =>
    rw [List.cons_append, layP_cons, layP_cons, ih]
    simp only [List.length_append, Nat.add_assoc, List.cons_append, List.append_assoc]
theorem layP_snoc (f : ByteArray → Int) {l : List Tm} {i : Nat} {u : Tm} (p : Nat) (h : l[i]? = some u) : layP f (l.take (i + 1)) p = ((layP f (l.take i) p).1 ++ [ownW f u (p + (layP f (l.take i) p).2.length)], (layP f (l.take i) p).2 ++ lay f u (p + (layP f (l.take i) p).2.length)) := by
  rw [take_snoc_of h, layP_append, layP_cons, layP_nil]
  simp
theorem layP_len1 (f : ByteArray → Int) (l : List Tm) (p : Nat) : (layP f l p).1.length = l.length := by
  induction l generalizing p with
  | nil => rw [layP_nil]; rfl
  | cons u r ih => rw [layP_cons]; simp [ih]
theorem hd_len (k n : Int) (m : Nat) : ((hd k n m).length : Int) = if k = 7 ∨ k = 5 then 1 else 0 := by
  unfold hd
  by_cases h7 : k = 7
  · simp [h7]
  · by_cases h5 : k = 5
    · simp [h5]
    · simp [h7, h5]
theorem boxK_has (t : Tm) : hasB t = true ↔ boxK t.k := by unfold hasB boxK; simp
theorem lay_len (f : ByteArray → Int) : ∀ t p, ((lay f t p).length : Int) + 1 = wds t := by
  refine Tm.ind fun t ih p => ?_
  have hl : ∀ (l : List Tm), (∀ u ∈ l, u ∈ t.l) → ∀ p, ((layP f l p).2.length : Int) + l.length = wdsL l := fun l => by
    induction l with
    | nil => intro _ p; rw [layP_nil, wdsL_nil]; rfl
    | cons u r ihr =>
      intro hm p
      have h1 := ih u (hm u (by simp)) p
      have h2 := ihr (fun v hv => hm v (by simp [hv])) (p + (lay f u p).length)
      rw [layP_cons, wdsL_cons]
      simp only [List.length_append, List.length_cons]
      omega
  obtain ⟨k, n, s, l⟩ := t
  rw [lay_mk, wds_mk]
  by_cases hb : boxK k
  · rw [if_pos hb, if_pos ((boxK_has (.mk k n s l)).2 hb)]
    have h1 := hl l (fun u hu => hu) (p + (hd k n l.length).length + l.length)
    have h2 := hd_len k n l.length
    have h3 := layP_len1 f l (p + (hd k n l.length).length + l.length)
    simp only [List.length_append]
    unfold ownN
    simp only [Tm.k_mk]
    have h4 : (if k = 7 ∨ k = 5 then (1 : Int) else 0) + 1 = if k = 7 ∨ k = 5 then 2 else 1 := by split <;> rfl
    omega
  · rw [if_neg hb, if_neg (fun h => hb ((boxK_has (.mk k n s l)).1 h))]
    unfold boxK at hb
    have h0 : ownN (.mk k n s l) = 1 := by unfold ownN; rw [if_neg (by simp only [Tm.k_mk]; omega)]
    rw [h0]
    rfl
/-- Only the atoms' numbers count. -/
theorem lay_congr {f f' : ByteArray → Int} : ∀ t, (∀ s ∈ atoms t, f s = f' s) → ∀ p, ownW f t p = ownW f' t p ∧ lay f t p = lay f' t p := by
  refine Tm.ind fun t ih h p => ?_
  obtain ⟨k, n, s, l⟩ := t
  simp only [Tm.l_mk] at ih
  rw [atoms_mk] at h
  constructor
  · rw [ownW_mk, ownW_mk]
    by_cases h2 : k = 2
    · rw [if_pos h2, if_pos h2]
      rw [if_pos h2] at h
      rw [h s (by simp)]
    · rw [if_neg h2, if_neg h2]
  · rw [lay_mk, lay_mk]
    by_cases hb : boxK k
    · rw [if_pos hb, if_pos hb]
      rw [if_neg (by unfold boxK at hb; omega)] at h
      have hl : ∀ (r : List Tm), (∀ u ∈ r, u ∈ l) → ∀ q, layP f r q = layP f' r q := fun r => by
        induction r with
        | nil => intro _ q; rw [layP_nil, layP_nil]
        | cons u r ihr =>
          intro hm q
          have h1 := ih u (hm u (by simp)) (fun s hs => h s (atomsL_mem (hm u (by simp)) hs)) q
          rw [layP_cons, layP_cons, h1.1, h1.2, ihr (fun v hv => hm v (by simp [hv]))]
      rw [hl l (fun u hu => hu)]
    · rw [if_neg hb, if_neg hb]
theorem layP_congr {f f' : ByteArray → Int} (l : List Tm) (h : ∀ s ∈ atomsL l, f s = f' s) : ∀ p, layP f l p = layP f' l p := by
  induction l with
  | nil => intro p; rw [layP_nil, layP_nil]
  | cons u r ih =>
    intro p
    rw [atomsL_cons] at h
    have h1 := lay_congr u (fun s hs => h s (by simp [hs])) p
    rw [layP_cons, layP_cons, h1.1, h1.2, ih (fun s hs => h s (by simp [hs]))]
/-- A term's words. -/
def flat (f : ByteArray → Int) (t : Tm) : List Int := ownW f t 1 :: lay f t 1
theorem flat_len (f : ByteArray → Int) (t : Tm) : ((Fl.flat f t).length : Int) = wds t := by
  have := lay_len f t 1
  unfold Fl.flat
  simp only [List.length_cons]
  omega
/-- Flatten: the error, the atoms, the words. -/
def flE (L : List ByteArray) (t : Tm) : Int := if chk t = 0 then (if (nums t L).1 = true then 0 else 8) else chk t
def flL (L : List ByteArray) (t : Tm) : List ByteArray := if chk t = 0 then (nums t L).2 else L
def flW (L : List ByteArray) (t : Tm) : List Int := if flE L t = 0 then Fl.flat (ix (nums t L).2) t else []
theorem ownW_range (f : ByteArray → Int) (t : Tm) (p : Nat) : 0 ≤ ownW f t p ∧ ownW f t p < 18446744073709551616 := packW_range _ _
def leafK (k : Int) : Prop := k = 1 ∨ k = 3 ∨ k = 4 ∨ k = 6 ∨ k = 8
instance (k : Int) : Decidable (leafK k) := by unfold leafK; infer_instance
/-- The terms of words, each read from where the one ahead ended. -/
def rdL (rd : Int → Nat → Option (Tm × Nat)) : List Int → Nat → Option (List Tm × Nat)
  | [], p => some ([], p)
  | w :: r, p => match rd w p with
    | none => none
    | some x => match rdL rd r x.2 with
      | none => none
      | some y => some (x.1 :: y.1, y.2)
/-- The head at place p: the number, how many parts, where they begin. -/
def hdR (l : List Int) (k : Int) (p : Nat) : Option (Int × Nat × Nat) :=
  if k = 9 then some (0, 2, p) else match l[p]? with
    | none => none
    | some h => if unE h = 0 ∧ unK h = (if k = 7 then 10 else 11) then (if k = 7 then some (0, (unN h).toNat, p + 1) else some (unN h / 128, (unN h % 128).toNat, p + 1)) else none
/-- The term of a word w; what is boxed lies from place p on. -/
def rdT (A : List ByteArray) (l : List Int) : Nat → Int → Nat → Option (Tm × Nat)
  | 0, _, _ => none
  | fuel + 1, w, p => if unE w ≠ 0 then none
    else if leafK (unK w) then some (.mk (unK w) (unN w) ⟨#[]⟩ [], p)
    else if unK w = 2 then (match A[(unN w).toNat]? with
      | some s => some (.mk 2 0 s [], p)
      | none => none)
    else if boxK (unK w) then (if unN w = (p : Int) then (match hdR l (unK w) p with
      | none => none
      | some h => if h.2.2 + h.2.1 ≤ l.length then (match rdL (rdT A l fuel) ((l.drop h.2.2).take h.2.1) (h.2.2 + h.2.1) with
        | none => none
        | some y => some (.mk (unK w) h.1 ⟨#[]⟩ y.1, y.2)) else none) else none)
    else none
theorem rdL_append (rd : Int → Nat → Option (Tm × Nat)) (a b : List Int) (p : Nat) : rdL rd (a ++ b) p = match rdL rd a p with
    | none => none
    | some y => match rdL rd b y.2 with
      | none => none
      | some z => some (y.1 ++ z.1, z.2) := by
  induction a generalizing p with
  | nil =>
    show rdL rd b p = match rdL rd b p with | none => none | some z => some ([] ++ z.1, z.2)
    cases rdL rd b p with
    | none => rfl
    | some z => rfl
  | cons w r ih =>
    rw [List.cons_append, rdL, rdL]
    cases rd w p with
    | none => rfl
    | some x =>
      simp only
      rw [ih]
      cases rdL rd r x.2 with
      | none => rfl
      | some y =>
        simp only
        cases rdL rd b y.2 with
        | none => rfl
        | some z => rfl
theorem take_snoc_int {l : List Int} {i : Nat} {u : Int} (h : l[i]? = some u) : l.take (i + 1) = l.take i ++ [u] := by
  rw [List.take_add_one, h]; rfl
theorem rdL_snoc (rd : Int → Nat → Option (Tm × Nat)) {a : List Int} {i : Nat} {w : Int} (p : Nat) (h : a[i]? = some w) : rdL rd (a.take (i + 1)) p = match rdL rd (a.take i) p with
    | none => none
    | some y => match rd w y.2 with
      | none => none
      | some x => some (y.1 ++ [x.1], x.2) := by
  rw [take_snoc_int h, rdL_append]
  cases rdL rd (a.take i) p with
  | none => rfl
  | some y =>
    simp only [rdL]
    cases rd w y.2 with
    | none => rfl
    | some x => rfl
theorem rdL_stop (rd : Int → Nat → Option (Tm × Nat)) {a : List Int} {i : Nat} {w : Int} {p : Nat} {y : List Tm × Nat} (h : a[i]? = some w) (hy : rdL rd (a.take i) p = some y) (hw : rd w y.2 = none) : rdL rd a p = none := by
  have h1 := rdL_snoc rd p h
  rw [hy] at h1
  simp only [hw] at h1
  have := rdL_append rd (a.take (i + 1)) (a.drop (i + 1)) p
  rw [List.take_append_drop, h1] at this
  exact this
theorem rdL_len {rd : Int → Nat → Option (Tm × Nat)} {a : List Int} {p : Nat} {y : List Tm × Nat} (h : rdL rd a p = some y) : y.1.length = a.length := by
  induction a generalizing p y with
  | nil => rw [rdL] at h; injection h with h; subst h; rfl
  | cons w r ih =>
    rw [rdL] at h
    cases hx : rd w p with
    | none => rw [hx] at h; cases h
    | some x =>
      rw [hx] at h
      simp only at h
      cases hz : rdL rd r x.2 with
      | none => rw [hz] at h; cases h
      | some z =>
        rw [hz] at h
        injection h with h
        subst h
        simp [ih hz]
/-- The term of words. -/
def rdF (A : List ByteArray) (l : List Int) : Option Tm := match l[0]? with
  | none => none
  | some w => match rdT A l (l.length + 1) w 1 with
    | none => none
    | some x => if x.2 = l.length then some x.1 else none
def rdE (A : List ByteArray) (l : List Int) : Int := if 65536 < l.length then 3 else if (rdF A l).isSome = true then 0 else 4
def U64 (w : Int) : Prop := 0 ≤ w ∧ w < 18446744073709551616
theorem un_facts {w : Int} (h : unE w = 0) : unK w = w % 16 ∧ unN w = wordN w ∧ low (unK w) ≤ unN w ∧ unN w ≤ high (unK w) ∧ (unK w = 11 → unN w % 128 ≤ 64) ∧ 0 ≤ unK w ∧ unK w < 12 := by
  have h0 := h
  unfold unE at h
  split at h
  · rename_i hc
    obtain ⟨h1, h2⟩ := hc
    have e1 : unK w = w % 16 := by unfold unK; rw [if_pos h0]
    have e2 : unN w = wordN w := by unfold unN; rw [if_pos h0]
    unfold isK at h1
    unfold fits at h2
    have h1 := of_decide_eq_true h1
    have h2 := of_decide_eq_true h2
    rw [e1, e2]
    exact ⟨rfl, rfl, h2.1, h2.2.1, h2.2.2, h1.1, h1.2⟩
  · cases h
theorem pack_back {w : Int} (hw : U64 w) (h : unE w = 0) : packW (unK w) (unN w) = w := by
  obtain ⟨e1, e2, _⟩ := un_facts h
  rw [e1, e2]
  exact (pack_un hw.1 hw.2 h).2
theorem pack_facts {k n : Int} (hk : 0 ≤ k ∧ k < 12) (hn : low k ≤ n ∧ n ≤ high k ∧ (k = 11 → n % 128 ≤ 64)) : unE (packW k n) = 0 ∧ unK (packW k n) = k ∧ unN (packW k n) = n := by
  have hp : packE k n = 0 := by
    unfold packE isK fits
    rw [if_pos (decide_eq_true hk), if_pos (decide_eq_true hn)]
  obtain ⟨h1, h2, h3⟩ := un_pack hp
  refine ⟨h1, ?_, ?_⟩
  · unfold unK; rw [if_pos h1, h2]
  · unfold unN; rw [if_pos h1, h3]
theorem soundB_mk (k n : Int) (s : ByteArray) (l : List Tm) : soundB (.mk k n s l) = soundK k n s.size l.length := rfl
theorem high_num {k : Int} (hk : 2 ≤ k ∧ k ≤ 7 ∨ k = 9) : low k = 0 ∧ high k = 1073741824 := by
  unfold low high mostV
  rw [if_neg (by omega), if_neg (by omega), if_neg (by omega), if_neg (by omega), if_pos hk]
  exact ⟨rfl, rfl⟩
theorem atomsL_in {l : List Tm} {P : ByteArray → Prop} (h : ∀ u ∈ l, ∀ s ∈ atoms u, P s) : ∀ s ∈ atomsL l, P s := by
  induction l with
  | nil => intro s hs; rw [atomsL_nil] at hs; cases hs
  | cons u r ih =>
    intro s hs
    rw [atomsL_cons, List.mem_append] at hs
    rcases hs with hs | hs
    · exact h u (by simp) s hs
    · exact ih (fun v hv => h v (by simp [hv])) s hs
/-- What hdR says. -/
theorem hdR_facts {l : List Int} {k : Int} {p : Nat} {h : Int × Nat × Nat} (hl : ∀ x ∈ l, U64 x) (hk : boxK k) (e : hdR l k p = some h) :
    h.2.1 ≤ 64 ∧ (k = 9 → h.1 = 0 ∧ h.2.1 = 2) ∧ (k = 7 → h.1 = 0) ∧ (k = 5 → 0 ≤ h.1 ∧ h.1 ≤ 1073741824) ∧ h.2.2 = p + (hd k h.1 h.2.1).length ∧ (∀ i v, (hd k h.1 h.2.1)[i]? = some v → l[p + i]? = some v) := by
  unfold hdR at e
  by_cases h9 : k = 9
  · rw [if_pos h9] at e
    injection e with e
    subst e
    have hh : hd k 0 2 = [] := by unfold hd; rw [if_neg (by omega), if_neg (by omega)]
    refine ⟨by simp, fun _ => ⟨rfl, rfl⟩, fun _ => rfl, fun _ => by simp, ?_, ?_⟩
    · show p = p + (hd k 0 2).length
      rw [hh]; rfl
    · show ∀ i v, (hd k 0 2)[i]? = some v → _
      rw [hh]; intro i v hv; simp at hv
  · rw [if_neg h9] at e
    cases hx : l[p]? with
    | none => rw [hx] at e; cases e
    | some x =>
      rw [hx] at e
      simp only at e
      by_cases hc : unE x = 0 ∧ unK x = (if k = 7 then 10 else 11)
      · rw [if_pos hc] at e
        obtain ⟨hc1, hc2⟩ := hc
        obtain ⟨_, _, f1, f2, f3, _, _⟩ := un_facts hc1
        have hpb := pack_back (hl x (List.mem_of_getElem? hx)) hc1
        by_cases h7 : k = 7
        · rw [if_pos h7] at e
          injection e with e
          subst e
          rw [if_pos h7] at hc2
          rw [hc2] at f1 f2 hpb
          have g1 : low 10 = 0 := rfl
          have g2 : high 10 = 64 := rfl
          rw [g1] at f1
          rw [g2] at f2
          have hh : hd k 0 (unN x).toNat = [x] := by unfold hd; rw [if_pos h7, Int.toNat_of_nonneg f1, hpb]
          refine ⟨by show (unN x).toNat ≤ 64; omega, fun e => (h9 e).elim, fun _ => rfl, fun e => by omega, ?_, ?_⟩
          · show p + 1 = p + (hd k 0 (unN x).toNat).length
            rw [hh]; rfl
          · show ∀ i v, (hd k 0 (unN x).toNat)[i]? = some v → _
            rw [hh]
            intro i v hv
            match i, hv with
            | 0, hv => simp at hv; subst hv; simpa using hx
            | i + 1, hv => simp at hv
        · rw [if_neg h7] at e
          injection e with e
          subst e
          rw [if_neg h7] at hc2
          have h5 : k = 5 := by unfold boxK at hk; omega
          rw [hc2] at f1 f2 hpb
          have f3 := f3 hc2
          have g1 : low 11 = 0 := rfl
          have g2 : high 11 = 137438953536 := rfl
          rw [g1] at f1
          rw [g2] at f2
          have hh : hd k (unN x / 128) (unN x % 128).toNat = [x] := by
            unfold hd
            rw [if_neg h7, if_pos h5, Int.toNat_of_nonneg (by omega), show unN x / 128 * 128 + unN x % 128 = unN x by omega, hpb]
          refine ⟨by show (unN x % 128).toNat ≤ 64; omega, fun e => (h9 e).elim, fun e => (h7 e).elim, fun _ => ⟨by show 0 ≤ unN x / 128; omega, by show unN x / 128 ≤ 1073741824; omega⟩, ?_, ?_⟩
          · show p + 1 = p + (hd k (unN x / 128) (unN x % 128).toNat).length
            rw [hh]; rfl
          · show ∀ i v, (hd k (unN x / 128) (unN x % 128).toNat)[i]? = some v → _
            rw [hh]
            intro i v hv
            match i, hv with
            | 0, hv => simp at hv; subst hv; simpa using hx
            | i + 1, hv => simp at hv
      · rw [if_neg hc] at e; cases e
/-- x stands in l from place p on. -/
def Seg (l : List Int) (p : Nat) (x : List Int) : Prop := ∀ i v, x[i]? = some v → l[p + i]? = some v
theorem Seg.app {l : List Int} {p : Nat} {x y : List Int} : Seg l p (x ++ y) ↔ Seg l p x ∧ Seg l (p + x.length) y := by
  constructor
  · intro h
    refine ⟨fun i v hv => h i v ?_, fun i v hv => ?_⟩
    · rw [List.getElem?_append_left (List.getElem?_eq_some_iff.1 hv).1]; exact hv
    · rw [Nat.add_assoc]
      refine h (x.length + i) v ?_
      rw [List.getElem?_append_right (by omega), Nat.add_sub_cancel_left]
      exact hv
  · rintro ⟨h1, h2⟩ i v hv
    rcases Nat.lt_or_ge i x.length with hi | hi
    · rw [List.getElem?_append_left hi] at hv
      exact h1 i v hv
    · rw [List.getElem?_append_right hi] at hv
      have := h2 (i - x.length) v hv
      rwa [show p + x.length + (i - x.length) = p + i by omega] at this
theorem Seg.cut {l : List Int} {p m : Nat} (h : p + m ≤ l.length) : Seg l p ((l.drop p).take m) := fun i v hv => by
  rw [List.getElem?_take] at hv
  split at hv
  · rw [List.getElem?_drop] at hv; exact hv
  · cases hv
theorem Seg.eq {l x : List Int} {p : Nat} (h : Seg l p x) (hl : p + x.length ≤ l.length) : (l.drop p).take x.length = x := by
  apply List.ext_getElem?
  intro i
  rw [List.getElem?_take]
  split
  · rename_i hi
    rw [List.getElem?_drop, h i _ (List.getElem?_eq_getElem hi), List.getElem?_eq_getElem hi]
  · rename_i hi
    rw [List.getElem?_eq_none (by omega)]
theorem sndL_subsL {l : List Tm} (h : ∀ u ∈ l, sndL (subs u) = true) : sndL (subsL l) = true := by
  induction l with
  | nil => rw [subsL_nil]; rfl
  | cons u r ih => rw [subsL_cons, sndL_append, h u (by simp), ih (fun v hv => h v (by simp [hv]))]; rfl
theorem idx_nodup {L : List ByteArray} (h : L.Nodup) : ∀ {n : Nat} {s : ByteArray}, L[n]? = some s → idx L s = n := by
  induction L with
  | nil => intro n s hn; simp at hn
  | cons a r ih =>
    intro n s hn
    rw [List.nodup_cons] at h
    cases n with
    | zero => simp at hn; subst hn; simp [idx]
    | succ n =>
      simp only [List.getElem?_cons_succ] at hn
      have hne : a ≠ s := fun e => h.1 (by rw [e]; exact List.mem_of_getElem? hn)
      simp only [idx, if_neg hne, ih h.2 hn]
/-- What reading a word says: the term may be, but for its size; how far it goes; its atoms; and that it is written as it was. -/
structure RdOk (A : List ByteArray) (l : List Int) (w : Int) (p : Nat) (t : Tm) (q : Nat) : Prop where
  snd : sndL (subs t) = true
  len : q ≤ l.length
  far : (q : Int) + 1 = p + wds t
  ats : ∀ s ∈ atoms t, s ∈ A
  own : A.Nodup → ownW (ix A) t p = w
  seg : A.Nodup → Seg l p (lay (ix A) t p)
theorem RdOk.q_eq {A : List ByteArray} {l : List Int} {w : Int} {p q : Nat} {t : Tm} (h : RdOk A l w p t q) : q = p + (lay (ix A) t p).length := by
  have h1 := h.far
  have h2 := lay_len (ix A) t p
  omega
structure RdOkL (A : List ByteArray) (l : List Int) (ws : List Int) (p : Nat) (ts : List Tm) (q : Nat) : Prop where
  snd : ∀ u ∈ ts, sndL (subs u) = true
  len : q ≤ l.length
  far : (q : Int) + ws.length = p + wdsL ts
  ats : ∀ u ∈ ts, ∀ s ∈ atoms u, s ∈ A
  own : A.Nodup → (layP (ix A) ts p).1 = ws
  seg : A.Nodup → Seg l p (layP (ix A) ts p).2
theorem rdL_ok {A : List ByteArray} {l : List Int} {rd : Int → Nat → Option (Tm × Nat)} (h : ∀ w p x, U64 w → p ≤ l.length → rd w p = some x → RdOk A l w p x.1 x.2) : ∀ (ws : List Int) (p : Nat) (y : List Tm × Nat), (∀ w ∈ ws, U64 w) → p ≤ l.length → rdL rd ws p = some y → RdOkL A l ws p y.1 y.2 := by
  intro ws
  induction ws with
  | nil =>
    intro p y _ hp e
    rw [rdL] at e
    injection e with e
    subst e
    exact ⟨by simp, hp, by simp [wdsL_nil], by simp, fun _ => by rw [layP_nil], fun _ => by rw [layP_nil]; intro i v hv; simp at hv⟩
  | cons w r ih =>
    intro p y hr hp e
    rw [rdL] at e
    cases hx : rd w p with
    | none => rw [hx] at e; cases e
    | some x =>
      rw [hx] at e
      simp only at e
      have h1 := h w p x (hr w (by simp)) hp hx
      cases hz : rdL rd r x.2 with
      | none => rw [hz] at e; cases e
      | some z =>
        rw [hz] at e
        injection e with e
        subst e
        have h2 := ih x.2 z (fun v hv => hr v (by simp [hv])) h1.len hz
        have hq := h1.q_eq
        refine ⟨?_, h2.len, ?_, ?_, fun hn => ?_, fun hn => ?_⟩
        · intro u hu
          rcases List.mem_cons.1 hu with rfl | hu
          · exact h1.snd
          · exact h2.snd u hu
        · have := h1.far
          have := h2.far
          rw [wdsL_cons, List.length_cons]
          omega
        · intro u hu
          rcases List.mem_cons.1 hu with rfl | hu
          · exact h1.ats
          · exact h2.ats u hu
        · rw [layP_cons, h1.own hn, ← hq, h2.own hn]
        · rw [layP_cons]
          simp only
          rw [← hq]
          refine Seg.app.2 ⟨h1.seg hn, ?_⟩
          rw [← hq]
          exact h2.seg hn
theorem rdT_ok {A : List ByteArray} (hA : ∀ s ∈ A, s.size ≤ 64) {l : List Int} (hl : ∀ x ∈ l, U64 x) : ∀ (fuel : Nat) (w : Int) (p : Nat) (x : Tm × Nat), U64 w → p ≤ l.length → rdT A l fuel w p = some x → RdOk A l w p x.1 x.2 := by
  intro fuel
  induction fuel with
  | zero => intro w p x _ _ e; rw [rdT] at e; cases e
  | succ fuel ih =>
    intro w p x hw hp e
    rw [rdT] at e
    by_cases hu : unE w = 0
    · rw [if_neg (fun h => h hu)] at e
      obtain ⟨_, _, f1, f2, _, _, _⟩ := un_facts hu
      have hpb := pack_back hw hu
      by_cases hlf : leafK (unK w)
      · rw [if_pos hlf] at e
        injection e with e
        subst e
        have hnb : ¬ boxK (unK w) := by unfold leafK at hlf; unfold boxK; omega
        have hn2 : unK w ≠ 2 := by unfold leafK at hlf; omega
        have hsub : subs (.mk (unK w) (unN w) ⟨#[]⟩ []) = [.mk (unK w) (unN w) ⟨#[]⟩ []] := by rw [subs_eq]; simp [subsL_nil]
        show RdOk A l w p (.mk (unK w) (unN w) ⟨#[]⟩ []) p
        refine ⟨?_, hp, ?_, ?_, fun _ => ?_, fun _ => ?_⟩
        · rw [hsub]
          show (soundB _ && true) = true
          rw [Bool.and_true]
          have hz : (⟨#[]⟩ : ByteArray).size = 0 := rfl
          rw [soundB_mk, hz]
          unfold soundK
          rcases hlf with h | h | h | h | h
          · rw [h] at f1 f2 ⊢
            have g1 : low 1 = -576460752303423488 := rfl
            have g2 : high 1 = 576460752303423487 := rfl
            rw [g1] at f1; rw [g2] at f2
            simp; omega
          · rw [h] at f1 f2 ⊢
            have g1 : low 3 = 0 := rfl
            have g2 : high 3 = 1073741824 := rfl
            rw [g1] at f1; rw [g2] at f2
            simp; omega
          · rw [h] at f1 f2 ⊢
            have g1 : low 4 = 0 := rfl
            have g2 : high 4 = 1073741824 := rfl
            rw [g1] at f1; rw [g2] at f2
            simp; omega
          · rw [h] at f1 f2 ⊢
            have g1 : low 6 = 0 := rfl
            have g2 : high 6 = 1073741824 := rfl
            rw [g1] at f1; rw [g2] at f2
            simp; omega
          · rw [h] at f1 f2 ⊢
            have g1 : low 8 = 0 := rfl
            have g2 : high 8 = 0 := rfl
            rw [g1] at f1; rw [g2] at f2
            simp; omega
        · have := lay_len (ix A) (.mk (unK w) (unN w) ⟨#[]⟩ []) p
          rw [lay_mk, if_neg hnb] at this
          simp only [List.length_nil] at this
          show (p : Int) + 1 = p + wds (.mk (unK w) (unN w) ⟨#[]⟩ [])
          omega
        · intro s hs
          rw [atoms_mk, if_neg hn2, atomsL_nil] at hs
          cases hs
        · rw [ownW_mk, if_neg hn2, if_neg hnb, hpb]
        · rw [lay_mk, if_neg hnb]
          intro i v hv; simp at hv
      · rw [if_neg hlf] at e
        by_cases h2 : unK w = 2
        · rw [if_pos h2] at e
          cases ha : A[(unN w).toNat]? with
          | none => rw [ha] at e; cases e
          | some s =>
            rw [ha] at e
            injection e with e
            subst e
            have hm := List.mem_of_getElem? ha
            have hsub : subs (.mk 2 0 s []) = [.mk 2 0 s []] := by rw [subs_eq]; simp [subsL_nil]
            have h64 := hA s hm
            have hlay : lay (ix A) (.mk 2 0 s []) p = [] := by rw [lay_mk, if_neg (by decide)]
            show RdOk A l w p (.mk 2 0 s []) p
            refine ⟨?_, hp, ?_, ?_, fun hn => ?_, fun _ => ?_⟩
            · rw [hsub]
              show (soundB _ && true) = true
              rw [Bool.and_true]
              rw [soundB_mk]
              unfold soundK
              simp; omega
            · have := lay_len (ix A) (.mk 2 0 s []) p
              rw [hlay] at this
              simp only [List.length_nil] at this
              show (p : Int) + 1 = p + wds (.mk 2 0 s [])
              omega
            · intro s' hs'
              rw [atoms_mk, if_pos rfl] at hs'
              simp at hs'
              subst hs'
              exact hm
            · rw [h2] at f1 hpb
              have g1 : low 2 = 0 := rfl
              rw [g1] at f1
              rw [ownW_mk, if_pos rfl]
              unfold ix
              rw [idx_nodup hn ha, Int.toNat_of_nonneg f1, hpb]
            · rw [hlay]
              intro i v hv; simp at hv
        · rw [if_neg h2] at e
          by_cases hb : boxK (unK w)
          · rw [if_pos hb] at e
            by_cases hnp : unN w = (p : Int)
            · rw [if_pos hnp] at e
              cases hh : hdR l (unK w) p with
              | none => rw [hh] at e; cases e
              | some h =>
                rw [hh] at e
                simp only at e
                split at e
                · rename_i hfit
                  obtain ⟨g1, g2, g3, g4, g5, g6⟩ := hdR_facts hl hb hh
                  cases hy : rdL (rdT A l fuel) ((l.drop h.2.2).take h.2.1) (h.2.2 + h.2.1) with
                  | none => rw [hy] at e; cases e
                  | some y =>
                    rw [hy] at e
                    injection e with e
                    subst e
                    have hws : ((l.drop h.2.2).take h.2.1).length = h.2.1 := by rw [List.length_take, List.length_drop]; omega
                    have hlen := rdL_len hy
                    rw [hws] at hlen
                    have hok := rdL_ok (A := A) (l := l) (fun w p x hw hp hx => ih w p x hw hp hx) _ _ y (fun v hv => hl v (List.mem_of_mem_drop (List.mem_of_mem_take hv))) (by omega) hy
                    have hsnd := sndL_subsL hok.snd
                    have hz : (⟨#[]⟩ : ByteArray).size = 0 := rfl
                    have hn2 : unK w ≠ 2 := h2
                    have hwd : (y.2 : Int) + 1 = p + wds (.mk (unK w) h.1 ⟨#[]⟩ y.1) := by
                      have h1 := hok.far
                      rw [hws] at h1
                      rw [wds_mk, if_pos ((boxK_has (.mk (unK w) h.1 ⟨#[]⟩ y.1)).2 hb)]
                      have h3 := hd_len (unK w) h.1 h.2.1
                      have h4 : ownN (.mk (unK w) h.1 ⟨#[]⟩ y.1) = (if unK w = 7 ∨ unK w = 5 then 1 else 0) + 1 := by
                        by_cases hk : unK w = 7 ∨ unK w = 5
                        · rw [if_pos hk]; unfold ownN; rw [if_pos (show (Tm.mk (unK w) h.1 ⟨#[]⟩ y.1).k = 7 ∨ (Tm.mk (unK w) h.1 ⟨#[]⟩ y.1).k = 5 from hk)]; rfl
                        · rw [if_neg hk]; unfold ownN; rw [if_neg (show ¬((Tm.mk (unK w) h.1 ⟨#[]⟩ y.1).k = 7 ∨ (Tm.mk (unK w) h.1 ⟨#[]⟩ y.1).k = 5) from hk)]; rfl
                      omega
                    show RdOk A l w p (.mk (unK w) h.1 ⟨#[]⟩ y.1) y.2
                    refine ⟨?_, hok.len, hwd, ?_, fun hn => ?_, fun hn => ?_⟩

                    · rw [sndL_subs]
                      show (soundB _ && sndL (subsL y.1)) = true
                      rw [hsnd, Bool.and_true]
                      rw [soundB_mk, hz, hlen]
                      unfold soundK
                      rcases hb with h7 | h5 | h9
                      · rw [h7, g3 h7]; simp; omega
                      · rw [h5]; have := g4 h5; simp; omega
                      · rw [h9, (g2 h9).1, (g2 h9).2]; simp
                    · intro s hs
                      rw [atoms_mk, if_neg hn2] at hs
                      exact atomsL_in hok.ats s hs
                    · rw [ownW_mk, if_neg hn2, if_pos hb, ← hnp, hpb]
                    · rw [lay_mk, if_pos hb, hlen, ← g5]
                      refine Seg.app.2 ⟨g6, ?_⟩
                      rw [← g5]
                      have ho := hok.own hn
                      refine Seg.app.2 ⟨?_, ?_⟩
                      · rw [ho]; exact Seg.cut hfit
                      · rw [ho, hws]; exact hok.seg hn
                · cases e
            · rw [if_neg hnp] at e; cases e
          · rw [if_neg hb] at e; cases e
    · rw [if_pos hu] at e; cases e
/-- What is read may be. -/
theorem rdF_chk {A : List ByteArray} (hA : ∀ s ∈ A, s.size ≤ 64) {l : List Int} (hl : ∀ x ∈ l, U64 x) (h6 : l.length ≤ 65536) {t : Tm} (h : rdF A l = some t) : chk t = 0 ∧ (∀ s ∈ atoms t, s ∈ A) ∧ (A.Nodup → Fl.flat (ix A) t = l) := by
  unfold rdF at h
  cases h0 : l[0]? with
  | none => rw [h0] at h; cases h
  | some w =>
    rw [h0] at h
    simp only at h
    have hlt := (List.getElem?_eq_some_iff.1 h0).1
    cases hx : rdT A l (l.length + 1) w 1 with
    | none => rw [hx] at h; cases h
    | some x =>
      rw [hx] at h
      simp only at h
      split at h
      · rename_i hq
        injection h with h
        subst h
        have hok := rdT_ok hA hl _ w 1 x (hl w (List.mem_of_getElem? h0)) (by omega) hx
        have hf := hok.far
        refine ⟨?_, hok.ats, fun hn => ?_⟩
        · rw [chk_eq, if_pos hok.snd, if_neg (by omega)]
        · unfold Fl.flat
          rw [hok.own hn]
          have hs := hok.seg hn
          have hq2 := hok.q_eq
          have := hs.eq (by omega)
          rw [List.take_of_length_le (by rw [List.length_drop]; omega)] at this
          rw [← this]
          cases l with
          | nil => simp at hlt
          | cons a r => simp at h0; subst h0; rfl
      · cases h
/-- What is written is read as it was. -/
theorem lay_rd {A : List ByteArray} (hA : A.length ≤ 4096) {l : List Int} (h6 : l.length ≤ 1073741824) : ∀ (t : Tm), sndL (subs t) = true → (∀ s ∈ atoms t, s ∈ A) → ∀ (fuel p : Nat), p ≤ l.length → l.length < p + fuel → Seg l p (lay (ix A) t p) → p + (lay (ix A) t p).length ≤ l.length → rdT A l fuel (ownW (ix A) t p) p = some (t, p + (lay (ix A) t p).length) := by
  refine Tm.ind fun t ih hs ha fuel p hp hfu hseg hle => ?_
  have hsb : soundB t = true := by rw [sndL_subs, Bool.and_eq_true] at hs; exact hs.1
  have hsl : ∀ u ∈ t.l, sndL (subs u) = true := fun u hu => by rw [sndL_subs, Bool.and_eq_true] at hs; exact sndL_mem hs.2 hu
  obtain ⟨k, n, s, l'⟩ := t
  simp only [Tm.l_mk] at ih hsl
  obtain ⟨fuel, rfl⟩ : ∃ f, fuel = f + 1 := ⟨fuel - 1, by omega⟩
  rw [rdT]
  rw [soundB_mk] at hsb
  unfold soundK at hsb
  have hempty : s.size = 0 → s = ⟨#[]⟩ := fun h => by
    obtain ⟨⟨d⟩⟩ := s
    have : d.length = 0 := h
    rw [List.eq_nil_of_length_eq_zero this]
  rw [ownW_mk]
  by_cases h2 : k = 2
  · rw [if_pos h2]
    rw [if_neg (by omega), if_pos h2] at hsb
    have hsb := of_decide_eq_true hsb
    obtain rfl : l' = [] := List.eq_nil_of_length_eq_zero hsb.2.2
    obtain rfl := hsb.1
    subst h2
    rw [atoms_mk, if_pos rfl] at ha
    have hm := ha s (by simp)
    have hlt := idx_lt hm
    have g1 : low 2 = 0 := rfl
    have g2 : high 2 = 1073741824 := rfl
    obtain ⟨e1, e2, e3⟩ := pack_facts (k := 2) (n := ix A s) (by omega) ⟨by rw [g1]; unfold ix; omega, by rw [g2]; unfold ix; omega, fun h => by omega⟩
    rw [e1, e2, e3, if_neg (by simp), if_neg (by decide), if_pos rfl]
    have : A[(ix A s).toNat]? = some s := by unfold ix; rw [Int.toNat_natCast]; exact idx_get hm
    rw [this, lay_mk, if_neg (by decide)]
    rfl
  · rw [if_neg h2]
    by_cases hb : boxK k
    · rw [if_pos hb]
      have hn9 : (2 ≤ k ∧ k ≤ 7 ∨ k = 9) := by unfold boxK at hb; omega
      obtain ⟨g1, g2⟩ := high_num hn9
      obtain ⟨e1, e2, e3⟩ := pack_facts (k := k) (n := (p : Int)) (by omega) ⟨by rw [g1]; omega, by rw [g2]; omega, fun h => by unfold boxK at hb; omega⟩
      rw [e1, e2, e3, if_neg (by simp), if_neg (by unfold leafK; unfold boxK at hb; omega), if_neg h2, if_pos hb, if_pos rfl]
      rw [lay_mk, if_pos hb] at hseg hle ⊢
      obtain ⟨s1, s2⟩ := Seg.app.1 hseg
      obtain ⟨s3, s4⟩ := Seg.app.1 s2
      have hl1 := layP_len1 (ix A) l' (p + (hd k n l'.length).length + l'.length)
      rw [hl1] at s4
      simp only [List.length_append, hl1] at hle ⊢
      have hnum : s = ⟨#[]⟩ ∧ l'.length ≤ 64 ∧ (k = 9 → n = 0 ∧ l'.length = 2) ∧ (k = 7 → n = 0) ∧ (k = 5 → 0 ≤ n ∧ n ≤ 1073741824) := by
        unfold boxK at hb
        rcases hb with h | h | h
        · subst h
          simp at hsb
          exact ⟨hsb.2.1, hsb.2.2, fun h => by omega, fun _ => hsb.1, fun h => by omega⟩
        · subst h
          simp at hsb
          exact ⟨hsb.2.2.1, hsb.2.2.2, fun h => by omega, fun h => by omega, fun _ => ⟨hsb.1, hsb.2.1⟩⟩
        · subst h
          simp at hsb
          exact ⟨hsb.2.1, by omega, fun _ => ⟨hsb.1, hsb.2.2⟩, fun h => by omega, fun h => by omega⟩
      obtain ⟨rfl, hm64, hk9, hk7, hk5⟩ := hnum
      have hhd : hdR l k p = some (n, l'.length, p + (hd k n l'.length).length) := by
        unfold hdR
        by_cases h9 : k = 9
        · rw [if_pos h9]
          obtain ⟨rfl, hm⟩ := hk9 h9
          have : hd k 0 l'.length = [] := by unfold hd; rw [if_neg (by omega), if_neg (by omega)]
          rw [this, hm]; rfl
        · rw [if_neg h9]
          by_cases h7 : k = 7
          · have hh : hd k n l'.length = [packW 10 (l'.length : Int)] := by unfold hd; rw [if_pos h7]
            have hx := s1 0 (packW 10 (l'.length : Int)) (by rw [hh]; rfl)
            rw [Nat.add_zero] at hx
            obtain ⟨d1, d2, d3⟩ := pack_facts (k := 10) (n := (l'.length : Int)) (by omega) ⟨by show (0 : Int) ≤ _; omega, by show _ ≤ (64 : Int); omega, fun h => by omega⟩
            rw [hx]
            simp only
            rw [if_pos ⟨d1, by rw [d2, if_pos h7]⟩, if_pos h7, d3, hh, Int.toNat_natCast, hk7 h7]
            rfl
          · have h5 : k = 5 := by unfold boxK at hb; omega
            have hh : hd k n l'.length = [packW 11 (n * 128 + (l'.length : Int))] := by unfold hd; rw [if_neg h7, if_pos h5]
            have hx := s1 0 (packW 11 (n * 128 + (l'.length : Int))) (by rw [hh]; rfl)
            rw [Nat.add_zero] at hx
            have h50 := hk5 h5
            obtain ⟨d1, d2, d3⟩ := pack_facts (k := 11) (n := n * 128 + (l'.length : Int)) (by omega) ⟨by show (0 : Int) ≤ _; omega, by show _ ≤ (137438953536 : Int); omega, fun _ => by omega⟩
            rw [hx]
            simp only
            rw [if_pos ⟨d1, by rw [d2, if_neg h7]⟩, if_neg h7, d3, hh, show (n * 128 + (l'.length : Int)) / 128 = n by omega, show (n * 128 + (l'.length : Int)) % 128 = l'.length by omega, Int.toNat_natCast]
            rfl
      rw [hhd]
      simp only
      rw [if_pos (by omega)]
      have hws : (l.drop (p + (hd k n l'.length).length)).take l'.length = (layP (ix A) l' (p + (hd k n l'.length).length + l'.length)).1 := by
        have := s3.eq (by rw [hl1]; omega)
        rwa [hl1] at this
      rw [hws]
      have hgo : ∀ (r : List Tm), (∀ u ∈ r, u ∈ l') → ∀ q, p < q → q ≤ l.length → Seg l q (layP (ix A) r q).2 → q + (layP (ix A) r q).2.length ≤ l.length → rdL (rdT A l fuel) (layP (ix A) r q).1 q = some (r, q + (layP (ix A) r q).2.length) := fun r => by
        induction r with
        | nil => intro _ q _ _ _ _; rw [layP_nil, rdL]; rfl
        | cons u r ihr =>
          intro hm q hq hql hsg hle
          rw [layP_cons] at hsg hle ⊢
          simp only at hsg hle ⊢
          obtain ⟨z1, z2⟩ := Seg.app.1 hsg
          rw [List.length_append] at hle
          rw [rdL, ih u (hm u (by simp)) (hsl u (hm u (by simp))) (fun s hs => ha s (by rw [atoms_mk, if_neg h2]; exact atomsL_mem (hm u (by simp)) hs)) fuel q hql (by omega) z1 (by omega)]
          simp only
          rw [ihr (fun v hv => hm v (by simp [hv])) _ (by omega) (by omega) z2 (by omega)]
          simp only [List.length_append, Nat.add_assoc]
      have hpos : 0 < (hd k n l'.length).length + l'.length := by
        have := hd_len k n l'.length
        unfold boxK at hb
        rcases hb with h | h | h
        · rw [if_pos (by omega)] at this; omega
        · rw [if_pos (by omega)] at this; omega
        · have := (hk9 h).2; omega
      rw [hgo l' (fun u hu => hu) _ (by omega) (by omega) s4 (by omega)]
      simp only [Nat.add_assoc]
    · rw [if_neg hb]
      have hlf : leafK k ∧ low k ≤ n ∧ n ≤ high k ∧ s.size = 0 ∧ l' = [] := by
        have hn : ¬(k = 7 ∨ k = 5 ∨ k = 9) := hb
        by_cases h1 : k = 1
        · subst h1
          obtain ⟨q1, q2, q3, q4⟩ := of_decide_eq_true (show decide (-576460752303423488 ≤ n ∧ n ≤ 576460752303423487 ∧ s.size = 0 ∧ l'.length = 0) = true from hsb)
          exact ⟨Or.inl rfl, q1, q2, q3, List.eq_nil_of_length_eq_zero q4⟩
        · rw [if_neg h1, if_neg h2] at hsb
          by_cases h3 : k = 3 ∨ k = 4 ∨ k = 6
          · rw [if_pos h3] at hsb
            obtain ⟨q1, q2, q3, q4⟩ := of_decide_eq_true hsb
            obtain ⟨g1, g2⟩ := high_num (k := k) (by omega)
            exact ⟨by unfold leafK; omega, by rw [g1]; exact q1, by rw [g2]; exact q2, q3, List.eq_nil_of_length_eq_zero q4⟩
          · rw [if_neg h3, if_neg (by omega), if_neg (by omega)] at hsb
            by_cases h8 : k = 8
            · subst h8
              obtain ⟨q1, q2, q3⟩ := of_decide_eq_true (show decide (n = 0 ∧ s.size = 0 ∧ l'.length = 0) = true from hsb)
              exact ⟨by unfold leafK; omega, by show (0 : Int) ≤ n; omega, by show n ≤ (0 : Int); omega, q2, List.eq_nil_of_length_eq_zero q3⟩
            · rw [if_neg h8, if_neg (by omega)] at hsb
              cases hsb
      obtain ⟨hlf, h3, h4, h5, rfl⟩ := hlf
      obtain ⟨e1, e2, e3⟩ := pack_facts (k := k) (n := n) (by unfold leafK at hlf; omega) ⟨h3, h4, fun h => by unfold leafK at hlf; omega⟩
      rw [e1, e2, e3, if_neg (by simp), if_pos hlf, hempty h5, lay_mk, if_neg hb]
      rfl
theorem flat_rd {A : List ByteArray} (hA : A.length ≤ 4096) {t : Tm} (h : chk t = 0) (ha : ∀ s ∈ atoms t, s ∈ A) : rdF A (Fl.flat (ix A) t) = some t ∧ (Fl.flat (ix A) t).length ≤ 65536 := by
  have hs : sndL (subs t) = true ∧ wds t ≤ 65536 := by
    rw [chk_eq] at h
    split at h
    · rename_i h1
      split at h
      · cases h
      · exact ⟨h1, by omega⟩
    · cases h
  have hfl := flat_len (ix A) t
  have hle : (Fl.flat (ix A) t).length ≤ 65536 := by omega
  refine ⟨?_, hle⟩
  have hcons : Fl.flat (ix A) t = ownW (ix A) t 1 :: lay (ix A) t 1 := rfl
  have h0 : (Fl.flat (ix A) t)[0]? = some (ownW (ix A) t 1) := rfl
  have hlen : (Fl.flat (ix A) t).length = 1 + (lay (ix A) t 1).length := by rw [hcons]; simp; omega
  unfold rdF
  rw [h0]
  simp only
  rw [lay_rd hA (by omega) t hs.1 ha _ 1 (by omega) (by omega) (fun i v hv => by rw [hcons, Nat.add_comm, List.getElem?_cons_succ]; exact hv) (by omega)]
  simp only
  rw [if_pos hlen.symm]
end Go.Proofs.Ytnedjmjcbmoknaa.Fl
