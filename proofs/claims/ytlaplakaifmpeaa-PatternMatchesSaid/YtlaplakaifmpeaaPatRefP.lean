/- The document's answers for patterns, as plain functions; they are the program's. Plain facts. -/
import Derived.Test.YtlaplakaifmpeaaPatBackP
namespace Go.Proofs.Ytlaplakaifmpeaa.Pt
open Go.RowKit K Go.Shelf
set_option linter.unusedVariables false
set_option linter.unusedSimpArgs false

/-! ### Rising numbers -/
def insI : List Int → Int → List Int
  | [], n => [n]
  | a :: r, n => if a < n then a :: insI r n else if a = n then a :: r else n :: a :: r
theorem insI_append {n : Int} : ∀ (l1 l2 : List Int), (∀ x ∈ l1, x < n) → insI (l1 ++ l2) n = l1 ++ insI l2 n
  | [], l2, _ => rfl
  | a :: r, l2, h => by
    rw [List.cons_append, insI, if_pos (h a (by simp)), insI_append r l2 (fun x hx => h x (by simp [hx])), List.cons_append]
theorem insI_at {l : List Int} {n : Int} {a : Nat} (h : ∀ i x, i < a → l[i]? = some x → x < n) : insI l n = l.take a ++ insI (l.drop a) n := by
  have := insI_append (n := n) (l.take a) (l.drop a) (fun x hx => by
    obtain ⟨i, hi⟩ := List.mem_iff_getElem?.1 hx
    have hlt : i < a := by
      have := (List.getElem?_eq_some_iff.1 hi).1
      rw [List.length_take] at this; omega
    rw [List.getElem?_take, if_pos hlt] at hi
    exact h i x hlt hi)
  rwa [List.take_append_drop] at this
theorem insI_is {l : List Int} {n : Int} {a : Nat} (h : ∀ i x, i < a → l[i]? = some x → x < n) (ha : l[a]? = some n) : insI l n = l := by
  rw [insI_at h]
  obtain ⟨h1, h2⟩ := List.getElem?_eq_some_iff.1 ha
  conv => rhs; rw [← List.take_append_drop a l]
  rw [List.drop_eq_getElem_cons h1, h2, insI, if_neg (by omega), if_pos rfl]
theorem insI_new {l : List Int} {n : Int} {a : Nat} (h : ∀ i x, i < a → l[i]? = some x → x < n) (ha : ∀ x, l[a]? = some x → n < x) : insI l n = l.take a ++ [n] ++ l.drop a := by
  rw [insI_at h]
  rcases Nat.lt_or_ge a l.length with hl | hl
  · have h2 := ha _ (List.getElem?_eq_getElem hl)
    rw [List.drop_eq_getElem_cons hl, insI, if_neg (by omega), if_neg (by omega)]
    simp
  · rw [List.drop_eq_nil_of_le hl, insI]; simp
theorem insI_snoc {q j : Int} (h : q < j) : ∀ l : List Int, insI (l ++ [j]) q = insI l q ++ [j]
  | [] => by
    show (if j < q then j :: insI [] q else if j = q then j :: [] else q :: j :: []) = [q, j]
    rw [if_neg (by omega), if_neg (by omega)]
  | a :: r => by
    rw [List.cons_append, insI, insI]
    by_cases h1 : a < q
    · rw [if_pos h1, if_pos h1, insI_snoc h r]; rfl
    · rw [if_neg h1, if_neg h1]
      by_cases h2 : a = q
      · rw [if_pos h2, if_pos h2]; rfl
      · rw [if_neg h2, if_neg h2]; rfl
theorem varsUp_lt {S : Nat → Bool} {j : Nat} {x : Int} (h : x ∈ varsUp S j) : x < (j : Int) := by
  unfold varsUp at h
  simp only [List.mem_map, List.mem_filter, List.mem_range] at h
  obtain ⟨n, ⟨hn, _⟩, rfl⟩ := h
  omega
theorem varsUp_congr {S T : Nat → Bool} : ∀ j, (∀ m, m < j → S m = T m) → varsUp S j = varsUp T j
  | 0, _ => rfl
  | j + 1, h => by rw [varsUp_succ, varsUp_succ, varsUp_congr j (fun m hm => h m (by omega)), h j (by omega)]
theorem insI_varsUp (S : Nat → Bool) (q : Nat) : ∀ j, q < j → insI (varsUp S j) (q : Int) = varsUp (fun m => decide (m = q) || S m) j
  | 0, h => by omega
  | j + 1, h => by
    rw [varsUp_succ, varsUp_succ]
    by_cases hq : q < j
    · rw [← insI_varsUp S q j hq]
      have hne : decide (j = q) = false := decide_eq_false (by omega)
      simp only [hne, Bool.false_or]
      cases S j with
      | true => simp only [if_true]; exact insI_snoc (by omega) _
      | false => simp
    · obtain rfl : q = j := by omega
      have h1 : varsUp (fun m => decide (m = q) || S m) q = varsUp S q := varsUp_congr q (fun m hm => by
        have : decide (m = q) = false := decide_eq_false (by omega)
        simp [this])
      rw [h1]
      simp only [decide_true, Bool.true_or, if_true]
      have hlt : ∀ x ∈ varsUp S q, x < (q : Int) := fun x hx => varsUp_lt hx
      rw [insI_append _ _ hlt]
      cases S q <;> simp [insI]

/-! ### The variables of a pattern -/
mutual
noncomputable def rvars : Tm → List Int → List Int
  | .mk k n s l, out => match varT (.mk k n s l) with
    | some q => insI out (q : Int)
    | none => if k = 7 ∨ k = 9 then rvarsL l out else out
noncomputable def rvarsL : List Tm → List Int → List Int
  | [], out => out
  | p :: r, out => rvarsL r (rvars p out)
end
theorem rvars_mk (k n : Int) (s : ByteArray) (l : List Tm) (out : List Int) : rvars (.mk k n s l) out = match varT (.mk k n s l) with
    | some q => insI out (q : Int)
    | none => if k = 7 ∨ k = 9 then rvarsL l out else out := by rw [rvars]
theorem rvarsL_nil (out : List Int) : rvarsL [] out = out := by rw [rvarsL]
theorem rvarsL_cons (p : Tm) (r : List Tm) (out : List Int) : rvarsL (p :: r) out = rvarsL r (rvars p out) := by rw [rvarsL]
theorem rvarsL_append (l l' : List Tm) (out : List Int) : rvarsL (l ++ l') out = rvarsL l' (rvarsL l out) := by
  induction l generalizing out with
  | nil => rw [rvarsL_nil]; rfl
  | cons p r ih => rw [List.cons_append, rvarsL_cons, rvarsL_cons, ih]
theorem rvarsL_snoc {l : List Tm} {k : Nat} {u : Tm} {out : List Int} (h : l[k]? = some u) : rvarsL (l.take (k + 1)) out = rvars u (rvarsL (l.take k) out) := by
  rw [take_snoc_of h, rvarsL_append, rvarsL_cons, rvarsL_nil]
theorem varT_may {t : Tm} (h : mayT t = true) : varT t = isVar t := by
  unfold mayT at h
  have h := of_decide_eq_true h
  unfold varT isVar
  by_cases hk : t.k = 2
  · rw [if_pos ⟨hk, h⟩, if_pos hk]
  · rw [if_neg (fun e => hk e.1), if_neg hk]
theorem isVar_lt {t : Tm} {q : Nat} (h : isVar t = some q) : q < 100 := by
  unfold isVar at h
  split at h
  · exact numL_lt h
  · cases h
theorem rleafs_leaf {t : Tm} (h : ¬ (t.k = 7 ∨ t.k = 9)) : rleafs t = [t] := by rw [rleafs_eq, if_neg (goes_no h)]
theorem rleafs_in {t : Tm} (h : t.k = 7 ∨ t.k = 9) : rleafs t = rleafsL t.l := by rw [rleafs_eq, if_pos (goes_yes h)]
theorem rvars_up : ∀ t : Tm, mayT t = true → ∀ S, rvars t (varsUp S 100) = varsUp (fun m => varIn (rleafs t) m || S m) 100 := by
  refine Tm.ind fun t ih hm S => ?_
  have hv := varT_may hm
  have hmem : ∀ u ∈ t.l, mayT u = true := fun u hu => may_mem hm hu
  obtain ⟨k, n, s, l⟩ := t
  simp only [Tm.l_mk] at ih hmem
  rw [rvars_mk, hv]
  by_cases h79 : k = 7 ∨ k = 9
  · have hn : isVar (.mk k n s l) = none := by unfold isVar; rw [if_neg (by simp only [Tm.k_mk]; omega)]
    rw [hn]
    simp only
    rw [if_pos h79, rleafs_in (by simpa only [Tm.k_mk] using h79)]
    simp only [Tm.l_mk]
    clear hv hn hm
    induction l generalizing S with
    | nil => rw [rvarsL_nil]; exact varsUp_congr _ fun m _ => by simp [rleafsL_nil, varIn]
    | cons p r ih2 =>
      rw [rvarsL_cons, ih p (by simp) (hmem p (by simp)) S, ih2 _ (fun u hu => ih u (List.mem_cons_of_mem _ hu)) (fun u hu => hmem u (List.mem_cons_of_mem _ hu))]
      exact varsUp_congr _ fun m _ => by rw [rleafsL_cons, varIn_append, Bool.or_assoc]
  · rw [rleafs_leaf (by simpa only [Tm.k_mk] using h79)]
    cases hi : isVar (.mk k n s l) with
    | some q =>
      simp only
      rw [insI_varsUp S q 100 (isVar_lt hi)]
      exact varsUp_congr _ fun m _ => by
        rw [varIn_one, hi]
        congr 1
        by_cases e : m = q
        · subst e; simp
        · rw [decide_eq_false e, decide_eq_false (fun h => e (by injection h with h; exact h.symm))]
    | none =>
      simp only
      rw [if_neg h79]
      exact varsUp_congr _ fun m _ => by rw [varIn_one, hi]; simp
theorem varsUp_none : ∀ j, varsUp (fun _ => false) j = []
  | 0 => rfl
  | j + 1 => by rw [varsUp_succ, varsUp_none j]; rfl
theorem rvars_vars {t : Tm} (hm : mayT t = true) : rvars t [] = varsT t := by
  have := rvars_up t hm (fun _ => false)
  rw [varsUp_none] at this
  rw [this]
  exact varsUp_congr _ fun m _ => by simp
mutual
/-- Does the one that matches all stand in a term? -/
noncomputable def ranyIn : Tm → Bool
  | .mk k n s l => if k = 2 ∧ s = uscore then true else if k = 7 ∨ k = 9 then ranyInL l else false
noncomputable def ranyInL : List Tm → Bool
  | [] => false
  | p :: r => ranyIn p || ranyInL r
end
theorem ranyIn_mk (k n : Int) (s : ByteArray) (l : List Tm) : ranyIn (.mk k n s l) = if k = 2 ∧ s = uscore then true else if k = 7 ∨ k = 9 then ranyInL l else false := by rw [ranyIn]
theorem ranyInL_nil : ranyInL [] = false := by rw [ranyInL]
theorem ranyInL_cons (p : Tm) (r : List Tm) : ranyInL (p :: r) = (ranyIn p || ranyInL r) := by rw [ranyInL]
theorem ranyInL_append (l l' : List Tm) : ranyInL (l ++ l') = (ranyInL l || ranyInL l') := by
  induction l with
  | nil => rw [ranyInL_nil]; rfl
  | cons p r ih => rw [List.cons_append, ranyInL_cons, ranyInL_cons, ih, Bool.or_assoc]
theorem ranyInL_snoc {l : List Tm} {k : Nat} {u : Tm} (h : l[k]? = some u) : ranyInL (l.take (k + 1)) = (ranyInL (l.take k) || ranyIn u) := by
  rw [take_snoc_of h, ranyInL_append, ranyInL_cons, ranyInL_nil, Bool.or_false]
theorem ranyInL_yes {l : List Tm} {k : Nat} {u : Tm} (h : l[k]? = some u) (hu : ranyIn u = true) : ranyInL l = true := by
  have h1 := ranyInL_snoc h
  rw [hu, Bool.or_true] at h1
  have := ranyInL_append (l.take (k + 1)) (l.drop (k + 1))
  rw [List.take_append_drop, h1] at this
  simpa using this
def allB (u : Tm) : Bool := decide (u.k = 2) && decide (u.s = uscore)
theorem ranyIn_leafs : ∀ t : Tm, ranyIn t = (rleafs t).any allB := by
  refine Tm.ind fun t ih => ?_
  obtain ⟨k, n, s, l⟩ := t
  simp only [Tm.l_mk] at ih
  rw [ranyIn_mk]
  by_cases h79 : k = 7 ∨ k = 9
  · rw [if_neg (by omega), if_pos h79, rleafs_in (by simpa only [Tm.k_mk] using h79)]
    simp only [Tm.l_mk]
    induction l with
    | nil => rw [ranyInL_nil, rleafsL_nil]; rfl
    | cons p r ih2 => rw [ranyInL_cons, rleafsL_cons, List.any_append, ih p (by simp), ih2 (fun u hu => ih u (by simp [hu])), Bool.or_comm]
  · rw [rleafs_leaf (by simpa only [Tm.k_mk] using h79), if_neg h79]
    unfold allB
    by_cases hc : k = 2 ∧ s = uscore
    · rw [if_pos hc]; simp [hc.1, hc.2]
    · rw [if_neg hc]
      by_cases h2 : k = 2
      · have : s ≠ uscore := fun e => hc ⟨h2, e⟩
        simp [h2, this]
      · simp [h2]
theorem freeB_eq (u : Tm) : freeB u = ((isVar u).isSome || allB u) := by
  unfold freeB allB isVar
  by_cases hk : u.k = 2
  · rw [if_pos hk, decide_eq_true hk]
    cases numS u.s <;> simp
  · rw [if_neg hk, decide_eq_false hk]; rfl
theorem bound_eq {t : Tm} (hm : mayT t = true) : boundT t = (decide ((rvars t []).length = 0) && !ranyIn t) := by
  rw [rvars_vars hm, ranyIn_leafs]
  unfold boundT
  rw [hm]
  have h1 : (rleafs t).any freeB = ((rleafs t).any (fun u => (isVar u).isSome) || (rleafs t).any allB) := by
    rw [show freeB = fun u => ((isVar u).isSome || allB u) from funext freeB_eq]
    generalize rleafs t = L
    induction L with
    | nil => rfl
    | cons a r ih => simp only [List.any_cons, ih]; cases (isVar a).isSome <;> cases allB a <;> simp
  rw [h1]
  have h2 : decide ((varsT t).length = 0) = !((rleafs t).any fun u => (isVar u).isSome) := by
    cases hx : (rleafs t).any fun u => (isVar u).isSome with
    | true =>
      rw [List.any_eq_true] at hx
      obtain ⟨u, hu, hs⟩ := hx
      obtain ⟨q, hq⟩ := Option.isSome_iff_exists.1 hs
      have hv : varIn (rleafs t) q = true := by
        unfold varIn
        rw [List.any_eq_true]
        exact ⟨u, hu, by simp [hq]⟩
      have hmem : (q : Int) ∈ varsT t := by
        unfold varsT varsUp
        simp only [List.mem_map, List.mem_filter, List.mem_range]
        exact ⟨q, ⟨isVar_lt hq, hv⟩, rfl⟩
      simp only [Bool.not_true, decide_eq_false_iff_not]
      intro h0
      rw [List.eq_nil_of_length_eq_zero h0] at hmem
      cases hmem
    | false =>
      have hall : ∀ m, varIn (rleafs t) m = false := fun m => by
        unfold varIn
        rw [List.any_eq_false] at hx ⊢
        intro u hu
        have := hx u hu
        simp only [decide_eq_true_eq]
        intro e
        rw [e] at this
        exact this rfl
      have : varsT t = [] := by
        unfold varsT
        rw [varsUp_congr 100 (T := fun _ => false) (fun m _ => hall m), varsUp_none]
      rw [this]
      rfl
  rw [h2]
  cases (rleafs t).any fun u => (isVar u).isSome <;> cases (rleafs t).any allB <;> rfl

/-! ### Bindings as a list -/
def findB (b : List Bnd) (n : Int) : Option Tm := (b.find? fun p => decide (p.1 = n)).map (·.2)
def insB : List Bnd → Int → Tm → List Bnd
  | [], n, t => [(n, t)]
  | p :: r, n, t => if p.1 < n then p :: insB r n t else (n, t) :: p :: r
theorem insB_append {n : Int} {t : Tm} : ∀ (l1 l2 : List Bnd), (∀ x ∈ l1, x.1 < n) → insB (l1 ++ l2) n t = l1 ++ insB l2 n t
  | [], l2, _ => rfl
  | a :: r, l2, h => by
    rw [List.cons_append, insB, if_pos (h a (by simp)), insB_append r l2 (fun x hx => h x (by simp [hx])), List.cons_append]
theorem insB_at {l : List Bnd} {n : Int} {t : Tm} {a : Nat} (h : ∀ i x, i < a → l[i]? = some x → x.1 < n) (ha : ∀ x, l[a]? = some x → n ≤ x.1) : insB l n t = l.take a ++ [(n, t)] ++ l.drop a := by
  have h1 := insB_append (n := n) (t := t) (l.take a) (l.drop a) (fun x hx => by
    obtain ⟨i, hi⟩ := List.mem_iff_getElem?.1 hx
    have hlt : i < a := by
      have := (List.getElem?_eq_some_iff.1 hi).1
      rw [List.length_take] at this; omega
    rw [List.getElem?_take, if_pos hlt] at hi
    exact h i x hlt hi)
  rw [List.take_append_drop] at h1
  rw [h1]
  rcases Nat.lt_or_ge a l.length with hl | hl
  · have h2 := ha _ (List.getElem?_eq_getElem hl)
    rw [List.drop_eq_getElem_cons hl, insB, if_neg (by omega)]
    simp
  · rw [List.drop_eq_nil_of_le hl, insB]; simp
theorem insB_snoc {q : Int} {t : Tm} {p : Bnd} (h : q ≤ p.1) : ∀ l : List Bnd, insB (l ++ [p]) q t = insB l q t ++ [p]
  | [] => by
    show (if p.1 < q then p :: insB [] q t else (q, t) :: p :: []) = [(q, t), p]
    rw [if_neg (by omega)]
  | a :: r => by
    rw [List.cons_append, insB, insB]
    by_cases h1 : a.1 < q
    · rw [if_pos h1, if_pos h1, insB_snoc h r]; rfl
    · rw [if_neg h1, if_neg h1]; rfl
theorem insB_len (n : Int) (t : Tm) : ∀ l : List Bnd, (insB l n t).length = l.length + 1
  | [] => rfl
  | a :: r => by
    rw [insB]
    split
    · simp [insB_len n t r]
    · simp
theorem insB_mem {n : Int} {t : Tm} {q : Bnd} : ∀ l : List Bnd, q ∈ insB l n t → q = (n, t) ∨ q ∈ l
  | [], h => by simp [insB] at h; exact .inl h
  | a :: r, h => by
    rw [insB] at h
    split at h
    · rw [List.mem_cons] at h
      rcases h with h | h
      · exact .inr (by simp [h])
      · rcases insB_mem r h with h | h
        · exact .inl h
        · exact .inr (by simp [h])
    · rw [List.mem_cons] at h
      exact h
theorem bl_lt {b : Bf} {j : Nat} {q : Bnd} (h : q ∈ bl b j) : q.1 < (j : Int) := by
  obtain ⟨n, hn, _, he⟩ := bl_mem h
  omega
theorem bl_congr {b c : Bf} : ∀ j, (∀ m, m < j → b m = c m) → bl b j = bl c j
  | 0, _ => rfl
  | j + 1, h => by rw [bl_succ, bl_succ, bl_congr j (fun m hm => h m (by omega)), h j (by omega)]
theorem insB_bl (b : Bf) (q : Nat) (t : Tm) (hq : b q = none) : ∀ j, q < j → insB (bl b j) (q : Int) t = bl (upd b q t) j
  | 0, h => by omega
  | j + 1, h => by
    rw [bl_succ, bl_succ]
    by_cases hqj : q < j
    · rw [← insB_bl b q t hq j hqj]
      have : upd b q t j = b j := by unfold upd; rw [if_neg (by omega)]
      rw [this]
      cases b j with
      | some u => exact insB_snoc (by simp; omega) _
      | none => simp
    · obtain rfl : q = j := by omega
      have h1 : bl (upd b q t) q = bl b q := bl_congr q (fun m hm => by unfold upd; rw [if_neg (by omega)])
      have h2 : upd b q t q = some t := by unfold upd; rw [if_pos rfl]
      rw [h1, h2, hq, List.append_nil]
      have := insB_append (t := t) (bl b q) [] (fun x hx => bl_lt hx)
      rw [List.append_nil] at this
      rw [this, insB]
theorem findB_snoc (l : List Bnd) (p : Bnd) (n : Int) : findB (l ++ [p]) n = match findB l n with
    | some u => some u
    | none => if p.1 = n then some p.2 else none := by
  unfold findB
  rw [List.find?_append]
  cases h : l.find? fun p => decide (p.1 = n) with
  | some u => simp
  | none =>
    simp only [Option.none_or, Option.map_none]
    by_cases e : p.1 = n
    · rw [if_pos e, List.find?_cons_of_pos (by simpa using e)]; rfl
    · rw [if_neg e, List.find?_cons_of_neg (by simpa using e)]; rfl
theorem findB_bl (b : Bf) (q : Nat) : ∀ j, findB (bl b j) (q : Int) = if q < j then b q else none
  | 0 => rfl
  | j + 1 => by
    rw [bl_succ]
    cases hb : b j with
    | none =>
      simp only [List.append_nil]
      rw [findB_bl b q j]
      by_cases e : q = j
      · subst e; simp [hb]
      · by_cases e2 : q < j
        · rw [if_pos e2, if_pos (by omega)]
        · rw [if_neg e2, if_neg (by omega)]
    | some t =>
      simp only
      rw [findB_snoc, findB_bl b q j]
      by_cases e : q = j
      · subst e; simp [hb]
      · by_cases e2 : q < j
        · rw [if_pos e2, if_pos (show q < j + 1 by omega)]
          cases b q with
          | some u => rfl
          | none =>
            simp only
            rw [if_neg (by omega)]
        · rw [if_neg e2, if_neg (show ¬ q < j + 1 by omega)]
          simp only
          rw [if_neg (by omega)]
theorem okFrom_split {p : Bnd} : ∀ (l : List Bnd) (last : Int), okFrom last (l ++ [p]) = true → okFrom last l = true ∧ (∀ q ∈ l, q.1 < p.1) ∧ last < p.1 ∧ p.1 ≤ 99
  | [], last, h => by
    simp [okFrom] at h
    exact ⟨rfl, by simp, h.1, h.2.1⟩
  | q :: r, last, h => by
    rw [List.cons_append] at h
    unfold okFrom at h
    simp only [Bool.and_eq_true, decide_eq_true_eq] at h
    obtain ⟨⟨h1, h2, h3⟩, h4⟩ := h
    obtain ⟨g1, g2, g3, g4⟩ := okFrom_split r q.1 h4
    refine ⟨?_, ?_, by omega, g4⟩
    · unfold okFrom
      simp [h1, h2, h3, g1]
    · intro x hx
      rw [List.mem_cons] at hx
      rcases hx with rfl | hx
      · exact g3
      · exact g2 x hx
theorem bl_bfold (l : List Bnd) (h : okFrom (-1) l = true) : bl (bfold l) 100 = l := by
  obtain ⟨n, hn⟩ : ∃ n, l.length = n := ⟨_, rfl⟩
  induction n generalizing l with
  | zero =>
    rw [List.eq_nil_of_length_eq_zero hn]
    unfold bfold bl
    rw [List.filterMap_eq_nil_iff]
    intro a _
    rfl
  | succ n ih =>
    obtain ⟨r, p, rfl⟩ : ∃ r p, l = r ++ [p] := ⟨l.dropLast, l.getLast (by intro e; rw [e] at hn; cases hn), (List.dropLast_concat_getLast _).symm⟩
    obtain ⟨h1, h2, h3, h4⟩ := okFrom_split r (-1) h
    have hr := ih r h1 (by simp at hn; exact hn)
    obtain ⟨q, hq⟩ : ∃ q : Nat, p.1 = (q : Int) := ⟨p.1.toNat, by omega⟩
    have hb : bfold r q = none := by
      have h5 := findB_bl (bfold r) q 100
      rw [hr, if_pos (by omega)] at h5
      rw [← h5]
      unfold findB
      rw [List.find?_eq_none.2 (fun x hx => by have := h2 x hx; simp; omega)]
      rfl
    have hi := insB_bl (bfold r) q p.2 hb 100 (by omega)
    rw [bfold_snoc, hq, Int.toNat_natCast, ← hi, hr]
    have := insB_append (t := p.2) (n := (q : Int)) r [] (fun x hx => by have := h2 x hx; omega)
    rw [List.append_nil] at this
    rw [this, insB, ← hq]
theorem findB_bfold {l : List Bnd} (h : okFrom (-1) l = true) {q : Nat} (hq : q < 100) : findB l (q : Int) = bfold l q := by
  have := findB_bl (bfold l) q 100
  rwa [bl_bfold l h, if_pos hq] at this
theorem findF_eq {l : List Bnd} {n : Int} : findF l n = if okFrom (-1) l = true then findB l n else none := by
  unfold findF
  by_cases h : okFrom (-1) l = true
  · rw [if_pos h]
    by_cases hn : 0 ≤ n ∧ n ≤ 99
    · obtain ⟨q, rfl⟩ : ∃ q : Nat, n = (q : Int) := ⟨n.toNat, by omega⟩
      rw [if_pos ⟨h, hn⟩, findB_bfold h (by omega)]
      rfl
    · rw [if_neg (fun e => hn e.2)]
      unfold findB
      rw [List.find?_eq_none.2 (fun x hx => ?_)]
      · rfl
      · rw [← bl_bfold l h] at hx
        obtain ⟨m, hm, _, he⟩ := bl_mem hx
        simp
        omega
  · rw [if_neg h, if_neg (fun e => h e.1)]

/-! ### Matching -/
mutual
noncomputable def rmatch : Tm → Tm → List Bnd → Option (List Bnd)
  | .mk k n s l, t, b => match varT (.mk k n s l) with
    | some q => (match findB b (q : Int) with
      | some u => if eqT u t = true then some b else none
      | none => some (insB b (q : Int) t))
    | none => if k = 2 ∧ s = uscore then some b
      else if k = 7 ∨ k = 9 then (if t.k = k ∧ t.l.length = l.length then rmatchL l t.l b else none)
      else if eqT (.mk k n s l) t = true then some b else none
noncomputable def rmatchL : List Tm → List Tm → List Bnd → Option (List Bnd)
  | [], _, b => some b
  | p :: r, [], b => some b
  | p :: r, t :: r', b => (rmatch p t b).bind fun b' => rmatchL r r' b'
end
theorem rmatch_mk (k n : Int) (s : ByteArray) (l : List Tm) (t : Tm) (b : List Bnd) : rmatch (.mk k n s l) t b = match varT (.mk k n s l) with
    | some q => (match findB b (q : Int) with
      | some u => if eqT u t = true then some b else none
      | none => some (insB b (q : Int) t))
    | none => if k = 2 ∧ s = uscore then some b
      else if k = 7 ∨ k = 9 then (if t.k = k ∧ t.l.length = l.length then rmatchL l t.l b else none)
      else if eqT (.mk k n s l) t = true then some b else none := by rw [rmatch]
theorem rmatchL_nil (l : List Tm) (b : List Bnd) : rmatchL [] l b = some b := by rw [rmatchL]
theorem rmatchL_cons (p t : Tm) (r r' : List Tm) (b : List Bnd) : rmatchL (p :: r) (t :: r') b = (rmatch p t b).bind fun b' => rmatchL r r' b' := by rw [rmatchL]
theorem rmatchL_append {l1 l2 m1 m2 : List Tm} {b : List Bnd} (h : l1.length = m1.length) : rmatchL (l1 ++ l2) (m1 ++ m2) b = (rmatchL l1 m1 b).bind fun b' => rmatchL l2 m2 b' := by
  induction l1 generalizing m1 b with
  | nil =>
    obtain rfl : m1 = [] := List.eq_nil_of_length_eq_zero (by simpa using h.symm)
    rw [rmatchL_nil]; rfl
  | cons p r ih =>
    cases m1 with
    | nil => simp at h
    | cons t r' =>
      rw [List.cons_append, List.cons_append, rmatchL_cons, rmatchL_cons]
      cases rmatch p t b with
      | none => rfl
      | some b' => exact ih (by simpa using h)
theorem rmatchL_snoc {l m : List Tm} {k : Nat} {u t : Tm} {b : List Bnd} (h : l[k]? = some u) (h' : m[k]? = some t) : rmatchL (l.take (k + 1)) (m.take (k + 1)) b = (rmatchL (l.take k) (m.take k) b).bind fun b' => rmatch u t b' := by
  have h1 := (List.getElem?_eq_some_iff.1 h).1
  have h2 := (List.getElem?_eq_some_iff.1 h').1
  rw [take_snoc_of h, take_snoc_of h', rmatchL_append (by rw [List.length_take, List.length_take]; omega)]
  congr 1
  funext b'
  rw [rmatchL_cons]
  cases rmatch u t b' with
  | none => rfl
  | some c => exact rmatchL_nil [] c
theorem rmatchL_none {l m : List Tm} {k : Nat} {u t : Tm} {b c : List Bnd} (h : l[k]? = some u) (h' : m[k]? = some t) (hl : l.length = m.length) (hc : rmatchL (l.take k) (m.take k) b = some c) (hu : rmatch u t c = none) : rmatchL l m b = none := by
  have h1 := rmatchL_snoc (b := b) h h'
  rw [hc] at h1
  simp only [Option.bind_some] at h1
  rw [hu] at h1
  have := rmatchL_append (l1 := l.take (k + 1)) (l2 := l.drop (k + 1)) (m1 := m.take (k + 1)) (m2 := m.drop (k + 1)) (b := b) (by rw [List.length_take, List.length_take]; omega)
  rw [List.take_append_drop, List.take_append_drop, h1] at this
  exact this
theorem rmatch_eq : ∀ p : Tm, mayT p = true → ∀ (t : Tm) (b : Bf), rmatch p t (bl b 100) = (matchF p t b).map fun c => bl c 100 := by
  refine Tm.ind fun p ih hm t b => ?_
  have hv := varT_may hm
  have hmem : ∀ u ∈ p.l, mayT u = true := fun u hu => may_mem hm hu
  obtain ⟨k, n, s, l⟩ := p
  simp only [Tm.l_mk] at ih hmem
  rw [rmatch_mk, hv, matchF]
  by_cases h2 : k = 2
  · have hiv : isVar (.mk k n s l) = numS s := by unfold isVar; simp [h2]
    rw [hiv, if_pos h2]
    by_cases hus : s = uscore
    · rw [if_pos hus]
      have : numS s = none := by rw [hus]; rfl
      rw [this]
      simp only
      rw [if_pos ⟨h2, hus⟩]
      rfl
    · rw [if_neg hus]
      cases hn : numS s with
      | some q =>
        simp only
        have hq : q < 100 := numL_lt hn
        rw [findB_bl b q 100, if_pos hq]
        cases hb : b q with
        | some u =>
          simp only
          by_cases he : eqT u t = true
          · rw [if_pos he, if_pos he]; rfl
          · rw [if_neg he, if_neg he]; rfl
        | none =>
          simp only
          rw [insB_bl b q t hb 100 hq]; rfl
      | none =>
        simp only
        rw [if_neg (fun e => hus e.2), if_neg (by omega)]
        by_cases he : eqT (.mk k n s l) t = true
        · rw [if_pos he, if_pos he]; rfl
        · rw [if_neg he, if_neg he]; rfl
  · have hiv : isVar (.mk k n s l) = none := by unfold isVar; rw [if_neg (by simpa only [Tm.k_mk] using h2)]
    rw [hiv, if_neg h2]
    simp only
    rw [if_neg (fun e => h2 e.1)]
    by_cases h79 : k = 7 ∨ k = 9
    · rw [if_pos h79, if_pos h79]
      by_cases hc : t.k = k ∧ t.l.length = l.length
      · rw [if_pos hc, if_pos hc]
        obtain ⟨_, hlen⟩ := hc
        generalize t.l = m at hlen
        clear hv hiv hm
        induction l generalizing m b with
        | nil => rw [rmatchL_nil, matchL_nil]; rfl
        | cons p r ih2 =>
          cases m with
          | nil => simp at hlen
          | cons u m =>
            rw [rmatchL_cons, matchL_cons, ih p (by simp) (hmem p (by simp)) u b]
            cases hx : matchF p u b with
            | none => rfl
            | some c => exact ih2 (b := c) (fun u hu => ih u (by simp [hu])) (fun u hu => hmem u (by simp [hu])) m (by simpa using hlen)
      · rw [if_neg hc, if_neg hc]; rfl
    · rw [if_neg h79, if_neg h79]
      by_cases he : eqT (.mk k n s l) t = true
      · rw [if_pos he, if_pos he]; rfl
      · rw [if_neg he, if_neg he]; rfl
/-- The document's More. -/
noncomputable def rmoreP (p t : Tm) (l : List Bnd) : Option (List Bnd) := if okFrom (-1) l = true ∧ mayT p = true ∧ mayT t = true then rmatch p t l else none
theorem rmore_eq (p t : Tm) (l : List Bnd) : rmoreP p t l = moreP p t l := by
  unfold rmoreP moreP
  by_cases hc : okFrom (-1) l = true ∧ mayT p = true ∧ mayT t = true
  · rw [if_pos hc, if_pos hc, ← rmatch_eq p hc.2.1 t (bfold l), bl_bfold l hc.1]
  · rw [if_neg hc, if_neg hc]

/-! ### Filling -/
mutual
noncomputable def rfill : Tm → List Bnd → Option Tm
  | .mk k n s l, b => match varT (.mk k n s l) with
    | some q => findB b (q : Int)
    | none => if k = 2 ∧ s = uscore then none
      else if k = 7 ∨ k = 9 then (rfillL l b).map fun l' => .mk k n s l'
      else some (.mk k n s l)
noncomputable def rfillL : List Tm → List Bnd → Option (List Tm)
  | [], _ => some []
  | p :: r, b => (rfill p b).bind fun t => (rfillL r b).map fun r' => t :: r'
end
theorem rfill_mk (k n : Int) (s : ByteArray) (l : List Tm) (b : List Bnd) : rfill (.mk k n s l) b = match varT (.mk k n s l) with
    | some q => findB b (q : Int)
    | none => if k = 2 ∧ s = uscore then none
      else if k = 7 ∨ k = 9 then (rfillL l b).map fun l' => .mk k n s l'
      else some (.mk k n s l) := by rw [rfill]
theorem rfillL_nil (b : List Bnd) : rfillL [] b = some [] := by rw [rfillL]
theorem rfillL_cons (p : Tm) (r : List Tm) (b : List Bnd) : rfillL (p :: r) b = (rfill p b).bind fun t => (rfillL r b).map fun r' => t :: r' := by rw [rfillL]
theorem rfillL_append (l l' : List Tm) (b : List Bnd) : rfillL (l ++ l') b = (rfillL l b).bind fun x => (rfillL l' b).map fun y => x ++ y := by
  induction l with
  | nil => rw [rfillL_nil]; cases h : rfillL l' b <;> simp [h]
  | cons p r ih =>
    rw [List.cons_append, rfillL_cons, rfillL_cons, ih]
    cases rfill p b with
    | none => rfl
    | some t =>
      cases rfillL r b with
      | none => rfl
      | some x => cases rfillL l' b <;> rfl
theorem rfillL_snoc {l : List Tm} {k : Nat} {u : Tm} {b : List Bnd} (h : l[k]? = some u) : rfillL (l.take (k + 1)) b = (rfillL (l.take k) b).bind fun x => (rfill u b).map fun t => x ++ [t] := by
  rw [take_snoc_of h, rfillL_append]
  congr 1
  funext x
  rw [rfillL_cons, rfillL_nil]
  cases rfill u b <;> rfl
theorem rfillL_none {l : List Tm} {k : Nat} {u : Tm} {b : List Bnd} (h : l[k]? = some u) (hu : rfill u b = none) : rfillL l b = none := by
  have h1 := rfillL_snoc (b := b) h
  rw [hu] at h1
  have := rfillL_append (l.take (k + 1)) (l.drop (k + 1)) b
  rw [List.take_append_drop, h1] at this
  rw [this]
  cases rfillL (l.take k) b <;> rfl
theorem rfill_eq {b : List Bnd} (hb : okFrom (-1) b = true) : ∀ p : Tm, mayT p = true → rfill p b = fillP p (bfold b) := by
  refine Tm.ind fun p ih hm => ?_
  have hv := varT_may hm
  have hmem : ∀ u ∈ p.l, mayT u = true := fun u hu => may_mem hm hu
  obtain ⟨k, n, s, l⟩ := p
  simp only [Tm.l_mk] at ih hmem
  rw [rfill_mk, hv, fillP]
  by_cases h2 : k = 2
  · have hiv : isVar (.mk k n s l) = numS s := by unfold isVar; simp [h2]
    rw [hiv, if_pos h2]
    by_cases hus : s = uscore
    · rw [if_pos hus]
      have : numS s = none := by rw [hus]; rfl
      rw [this]
      simp only
      rw [if_pos ⟨h2, hus⟩]
    · rw [if_neg hus]
      cases hn : numS s with
      | some q =>
        simp only
        exact findB_bfold hb (numL_lt hn)
      | none =>
        simp only
        rw [if_neg (fun e => hus e.2), if_neg (by omega)]
  · have hiv : isVar (.mk k n s l) = none := by unfold isVar; rw [if_neg (by simpa only [Tm.k_mk] using h2)]
    rw [hiv, if_neg h2]
    simp only
    rw [if_neg (fun e => h2 e.1)]
    by_cases h79 : k = 7 ∨ k = 9
    · rw [if_pos h79, if_pos h79]
      congr 1
      clear hv hiv hm
      induction l with
      | nil => rw [rfillL_nil, fillL_nil]
      | cons p r ih2 => rw [rfillL_cons, fillL_cons, ih p (by simp) (hmem p (by simp)), ih2 (fun u hu => ih u (by simp [hu])) (fun u hu => hmem u (by simp [hu]))]
    · rw [if_neg h79, if_neg h79]
theorem rfilled_eq (p : Tm) (l : List Bnd) : (if okFrom (-1) l = true ∧ mayT p = true then (rfill p l).bind fun t => if mayT t = true then some t else none else none) = filledF p l := by
  unfold filledF
  by_cases hc : okFrom (-1) l = true ∧ mayT p = true
  · rw [if_pos hc, if_pos hc, rfill_eq hc.1 p hc.2]
  · rw [if_neg hc, if_neg hc]
end Go.Proofs.Ytlaplakaifmpeaa.Pt
