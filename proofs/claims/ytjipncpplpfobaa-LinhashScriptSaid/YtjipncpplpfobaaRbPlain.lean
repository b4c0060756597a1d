/- The document's Split does what the program's does; what any call keeps: plain, no program in sight. -/
import Derived.Test.YtjipncpplpfobaaRbJoin
namespace Go.Proofs.Ytjipncpplpfobaa.Lb
open Go.RowKit K Hs
set_option linter.unusedVariables false
set_option linter.unusedSimpArgs false

theorem filt_flat (p : It → Bool) : ∀ (L : List (List It)) (j : Nat), (∀ i l, L[i]? = some l → i ≠ j → l.filter p = []) → L.flatten.filter p = (L.getD j []).filter p := by
  intro L
  induction L with
  | nil => intro j _; simp
  | cons a L ih =>
    intro j h
    rw [List.flatten_cons, List.filter_append]
    rcases j with _ | j
    · have h1 := ih L.length (fun i l hi _ => h (i + 1) l (by simpa using hi) (by omega))
      rw [h1, List.getD_eq_getElem?_getD (l := L), List.getElem?_eq_none (Nat.le_refl _)]
      simp
    · have h1 := ih j (fun i l hi hj => h (i + 1) l (by simpa using hi) (by omega))
      rw [h 0 a rfl (by omega), h1]
      simp
theorem putAll_at : ∀ (its : List It) (L : List (List It)) (j : Nat), (putAll L its)[j]? = L[j]?.map (· ++ its.filter fun x => decide (bk x.1 L.length = j)) := by
  intro its
  induction its with
  | nil => intro L j; show L[j]? = _; simp
  | cons x its ih =>
    intro L j
    show (putAll (addL L (bk x.1 L.length) x) its)[j]? = _
    rw [ih, addL_len]
    unfold addL
    by_cases e : bk x.1 L.length = j
    · subst e
      rw [List.filter_cons_of_pos (by simp)]
      rcases hh : L[bk x.1 L.length]? with _ | l
      · have := List.getElem?_eq_none_iff.1 hh
        rw [List.getElem?_eq_none (by simpa using this)]
        rfl
      · have hlt := (List.getElem?_eq_some_iff.1 hh).1
        rw [List.getElem?_set_self hlt, List.getD_eq_getElem?_getD, hh]
        simp
    · rw [List.getElem?_set_ne e, List.filter_cons_of_neg (by simpa using e)]
section
variable {L : List (List It)} {all : List It}
/-- Items in the buckets of their hashes. -/
def InB (L : List (List It)) : Prop := ∀ i l, L[i]? = some l → ∀ x ∈ l, (0 ≤ x.1 ∧ x.1 ≤ 4294967295) ∧ bk x.1 L.length = i
theorem InB.inv (h : InB L) (m1 : 1 ≤ L.length) (m2 : L.length ≤ 60000) : Inv L L.flatten where
  inb := h
  same := fun n => by
    symm
    refine filt_flat _ L _ (fun i l hi hne => ?_)
    exact fil_nil_of (fun x hx e => hne (by have := (h i l hi x hx).2; rw [e] at this; exact this.symm))
  len := by unfold tot; rw [List.length_flatten]
  m1 := m1
  m2 := m2
/-- An item less, or none. -/
theorem InB.rem (h : InB L) (x : It) (n : Nat) : InB (remL L n x) := by
  intro i l hi y hy
  rw [remL_len]
  unfold remL at hi
  by_cases e : n = i
  · subst e
    have hlt : n < L.length := by have := (List.getElem?_eq_some_iff.1 hi).1; simpa using this
    rw [List.getElem?_set_self hlt] at hi
    injection hi with hi
    subst hi
    refine h n _ (List.getElem?_eq_getElem hlt) y ?_
    rw [getD_at (List.getElem?_eq_getElem hlt)] at hy
    unfold remR at hy
    split at hy
    · exact (List.eraseIdx_sublist _ _).subset hy
    · exact hy
  · rw [List.getElem?_set_ne e] at hi
    exact h i l hi y hy
theorem tot_rem {n : Nat} {x : It} (hn : n < L.length) : tot (remL L n x) = if hasI (L.getD n []) x then tot L - 1 else tot L := by
  obtain ⟨l, hl⟩ : ∃ l, L[n]? = some l := ⟨_, List.getElem?_eq_getElem hn⟩
  unfold remL
  rw [getD_at hl]
  have h1 := tot_set (remR l x) hl
  unfold remR hasI at *
  by_cases e : ix l x < l.length
  · simp only [e, if_true, decide_true] at h1 ⊢
    rw [List.length_eraseIdx, if_pos e] at h1
    omega
  · simp only [e, if_false, decide_false] at h1 ⊢
    simp
    omega
theorem tot_rem_le {n : Nat} {x : It} (hn : n < L.length) : tot (remL L n x) ≤ tot L := by
  rw [tot_rem hn]; split <;> omega
theorem rsplit_is (h : InB L) (m1 : 1 ≤ L.length) (m2 : L.length < 1048576) : rsplitL L = splitL L := by
  have hs := fun n : Int => bk_split (m := L.length) m1 m2 n
  have hf := frm_lt m1
  apply List.ext_getElem?
  intro j
  unfold rsplitL
  rw [putAll_at, splitL_at L m1 j, List.length_replicate]
  rcases Nat.lt_or_ge j (L.length + 1) with hj | hj
  · rw [List.getElem?_replicate, if_pos hj]
    simp only [Option.map_some, List.nil_append]
    by_cases e1 : j = frm L.length
    · rw [if_pos e1]
      congr 1
      rw [filt_flat _ L j (fun i l hi hne => ?_), e1]
      · unfold stayL
        apply List.filter_congr
        intro x hx
        have hx2 := (h _ _ (List.getElem?_eq_getElem hf) x (by rwa [getD_at (List.getElem?_eq_getElem hf)] at hx)).2
        rcases (hs x.1).1 with s | s
        · rw [s, hx2]; simp; omega
        · rw [s]; simp; omega
      · rw [List.filter_eq_nil_iff]
        intro x hx hb
        have hb : bk x.1 (L.length + 1) = j := by simpa using hb
        have := (h i l hi x hx).2
        rcases (hs x.1).1 with s | s
        · omega
        · omega
    · rw [if_neg e1]
      by_cases e2 : j = L.length
      · rw [if_pos e2]
        congr 1
        rw [filt_flat _ L (frm L.length) (fun i l hi hne => ?_), e2]
        · rfl
        · rw [List.filter_eq_nil_iff]
          intro x hx hb
          have hb : bk x.1 (L.length + 1) = j := by simpa using hb
          have := (h i l hi x hx).2
          have := (hs x.1).2 (by omega)
          omega
      · rw [if_neg e2]
        have hjl : j < L.length := by omega
        rw [List.getElem?_eq_getElem hjl]
        congr 1
        rw [filt_flat _ L j (fun i l hi hne => ?_), getD_at (List.getElem?_eq_getElem hjl)]
        · rw [List.filter_eq_self]
          intro x hx
          have hx2 := (h _ _ (List.getElem?_eq_getElem hjl) x hx).2
          rcases (hs x.1).1 with s | s
          · simp; omega
          · have := (hs x.1).2 s; omega
        · rw [List.filter_eq_nil_iff]
          intro x hx hb
          have hb : bk x.1 (L.length + 1) = j := by simpa using hb
          have := (h i l hi x hx).2
          rcases (hs x.1).1 with s | s
          · omega
          · omega
  · rw [List.getElem?_eq_none (by simpa using hj), if_neg (by omega), if_neg (by omega), List.getElem?_eq_none (by omega)]
    rfl
/-- What any call keeps, M calls on. -/
def Kp (least M : Nat) (L : List (List It)) : Prop := InB L ∧ 1 ≤ least ∧ least ≤ L.length ∧ L.length ≤ 1024 + M ∧ tot L ≤ M
theorem Kp.start {n : Nat} (h1 : 1 ≤ n) (h2 : n ≤ 1024) : Kp n 0 (List.replicate n []) :=
  ⟨(Inv.start h1 (by omega)).inb, h1, by simp, by simpa using h2, by have := (Inv.start h1 (show n ≤ 60000 by omega)).len; simpa using this⟩
variable {least M : Nat}
theorem Kp.more (h : Kp least M L) : Kp least (M + 1) L := ⟨h.1, h.2.1, h.2.2.1, by have := h.2.2.2.1; omega, by have := h.2.2.2.2; omega⟩
theorem Kp.inv (h : Kp least M L) (hM : M ≤ 1000) : Inv L L.flatten := h.1.inv (Nat.le_trans h.2.1 h.2.2.1) (by have := h.2.2.2.1; omega)
theorem Kp.ok (h : Kp least M L) (hM : M ≤ 1000) : Ok (tot L : Int) L := by
  have hi := h.inv hM
  rw [hi.len]
  exact hi.ok (by have := hi.len; have := h.2.2.2.2; omega)
theorem Kp.add (h : Kp least M L) (hM : M ≤ 1000) (x : It) (hx : 0 ≤ x.1 ∧ x.1 ≤ 4294967295) : Kp least (M + 1) (addL L (bk x.1 L.length) x) ∧ tot (addL L (bk x.1 L.length) x) = tot L + 1 := by
  have hi := (h.inv hM).add x hx
  have e : tot (addL L (bk x.1 L.length) x) = tot L + 1 := by
    have h1 := hi.len
    have h2 := (h.inv hM).len
    rw [h1, h2]
    simp
  obtain ⟨a, b, c, d, f⟩ := h
  exact ⟨⟨hi.inb, b, by rw [addL_len]; exact c, by rw [addL_len]; omega, by omega⟩, e⟩
theorem Kp.rem (h : Kp least M L) (hM : M ≤ 1000) (x : It) : Kp least (M + 1) (remL L (bk x.1 L.length) x) ∧ (tot (remL L (bk x.1 L.length) x) : Int) = if hasI (L.getD (bk x.1 L.length) []) x then (tot L : Int) - 1 else (tot L : Int) := by
  have hi := h.inv hM
  have hlt := bk_lt (h := x.1) hi.m1 (Nat.le_trans hi.m2 (by decide))
  obtain ⟨a, b, c, d, f⟩ := h
  refine ⟨⟨a.rem x _, b, by rw [remL_len]; exact c, by rw [remL_len]; omega, by have := tot_rem_le (x := x) hlt; omega⟩, ?_⟩
  rw [tot_rem hlt]
  by_cases e : hasI (L.getD (bk x.1 L.length) []) x = true
  · rw [if_pos e, if_pos e]
    have hin : 1 ≤ tot L := by
      obtain ⟨l, hl, hg⟩ := hi.row x.1
      rw [hg] at e
      unfold hasI at e
      have h1 : ix l x < l.length := by simpa using e
      have := tot_ge (List.mem_of_getElem? hl)
      omega
    omega
  · rw [if_neg e, if_neg e]
theorem Kp.split (h : Kp least M L) (hM : M ≤ 1000) : Kp least (M + 1) (splitL L) ∧ tot (splitL L) = tot L := by
  have hi := h.inv hM
  have hsp := hi.split (by have := h.2.2.2.1; omega)
  have e : tot (splitL L) = tot L := by rw [hsp.len, hi.len]
  obtain ⟨a, b, c, d, f⟩ := h
  exact ⟨⟨hsp.inb, b, by rw [splitL_len]; omega, by rw [splitL_len]; omega, by omega⟩, e⟩
theorem joinL_len (L : List (List It)) : (joinL L).length = L.length - 1 := by unfold joinL; rw [putAll_len]; simp
theorem Kp.join (h : Kp least M L) (hM : M ≤ 1000) (hl : least < L.length) : Kp least (M + 1) (joinL L) ∧ tot (joinL L) = tot L := by
  have hi := h.inv hM
  have hj := hi.join (by have := h.2.1; omega)
  have e : tot (joinL L) = tot L := by rw [hj.len, hi.len]
  obtain ⟨a, b, c, d, f⟩ := h
  exact ⟨⟨hj.inb, b, by rw [joinL_len]; omega, by rw [joinL_len]; omega, by omega⟩, e⟩
end
end Go.Proofs.Ytjipncpplpfobaa.Lb
