/- What buckets keep when items are put and taken, and when they are split and joined: plain, no program in sight. -/
import Derived.Test.YtjipncpplpfobaaLaw10
namespace Go.Proofs.Ytjipncpplpfobaa.Lb
open Go.RowKit K Hs
set_option linter.unusedVariables false
set_option linter.unusedSimpArgs false

theorem bk_self {m : Nat} (h1 : 1 ≤ m) (h2 : m < 1048576) : bk (m : Int) (m + 1) = m := by
  obtain ⟨a1, a2, a3⟩ := pw_is (b := m + 1) (by omega) (by omega)
  unfold bk bktI
  have e : (((m + 1 : Nat) : Int)).toNat = m + 1 := by omega
  rw [e, Int.emod_eq_of_lt (by omega) (by omega), if_pos (by omega)]
  omega
theorem bk_top {m : Nat} (h1 : 1 ≤ m) (h2 : m ≤ 1048576) : bk (m : Int) m = frm m := by
  obtain ⟨a1, a2, a3⟩ := pw_is (b := m) h1 h2
  unfold bk bktI
  rw [Int.toNat_natCast]
  rcases Nat.lt_or_ge m (pw m) with hlt | hge
  · obtain ⟨r, e1, e2, e3, j, e4⟩ := pw_half h1 h2 hlt
    have e5 : (pw m : Int) / 2 = (r : Int) := by omega
    rw [Int.emod_eq_of_lt (by omega) (by omega), if_neg (by omega), e5]
    rw [frm_is (j := j) (by omega) (by rw [Nat.pow_succ, ← e4]; omega), ← e4]
    have e6 : (m : Int) = ((m - r : Nat) : Int) + (r : Int) * 1 := by omega
    rw [e6, Int.add_mul_emod_self_left, Int.emod_eq_of_lt (by omega) (by omega)]
    omega
  · have e0 : pw m = m := by omega
    have hb : m = 2 ^ Lib.bitLen (m - 1) := by have : pw m = 2 ^ Lib.bitLen (m - 1) := rfl; omega
    rw [e0, Int.emod_self, if_pos (by omega), frm_is (j := Lib.bitLen (m - 1)) (by omega) (by rw [Nat.pow_succ, ← hb]; omega), ← hb]
    simp
/-- One bucket more. -/
theorem bk_split {m : Nat} (h1 : 1 ≤ m) (h2 : m < 1048576) (h : Int) : (bk h (m + 1) = bk h m ∨ bk h (m + 1) = m) ∧ (bk h (m + 1) = m → bk h m = frm m) := by
  obtain ⟨o, ho⟩ := bkt_split (n := (m : Int)) (by omega) (by omega)
  have ecast : (((m + 1 : Nat) : Int)) = (m : Int) + 1 := by omega
  have key : ∀ g : Int, bk g (m + 1) = m → bktI g (m : Int) = o := fun g hg => by
    have hr := bktI_range (g := g) (n := (m : Int) + 1) (by omega) (by omega)
    refine (ho g).2 ?_
    unfold bk at hg
    rw [ecast] at hg
    omega
  have h3 := key (m : Int) (bk_self h1 h2)
  have h4 := bk_top h1 (Nat.le_of_lt h2)
  refine ⟨?_, fun hg => ?_⟩
  · rcases (ho h).1 with h5 | h5
    · left; unfold bk; rw [ecast, h5]
    · right; unfold bk; rw [ecast, h5]; omega
  · have h5 := key h hg
    unfold bk at h4 ⊢
    rw [h5, ← h3]
    exact h4
def tot (L : List (List It)) : Nat := (L.map List.length).sum
theorem tot_set : ∀ {L : List (List It)} {i : Nat} {l : List It} (l' : List It), L[i]? = some l → tot (L.set i l') + l.length = tot L + l'.length
  | [], i, l, l', h => by simp at h
  | a :: L, 0, l, l', h => by simp at h; subst h; simp [tot]; omega
  | a :: L, i + 1, l, l', h => by
    have := tot_set (L := L) l' (by simpa using h)
    simp [tot] at this ⊢
    omega
theorem tot_append (L L' : List (List It)) : tot (L ++ L') = tot L + tot L' := by simp [tot]
theorem tot_ge {L : List (List It)} {l : List It} (h : l ∈ L) : l.length ≤ tot L := by
  induction L with
  | nil => cases h
  | cons a L ih =>
    rcases List.mem_cons.1 h with rfl | h
    · simp [tot]
    · have := ih h
      simp [tot] at this ⊢
      omega
theorem fil_append (h : Int) (a b : List It) : fil h (a ++ b) = fil h a ++ fil h b := List.filter_append ..
theorem fil_nil_of {h : Int} {l : List It} (hn : ∀ x ∈ l, x.1 ≠ h) : fil h l = [] := by
  unfold fil
  rw [List.filter_eq_nil_iff]
  intro x hx
  simpa using hn x hx
theorem mem_fil {h : Int} {l : List It} {x : It} : x ∈ fil h l ↔ x ∈ l ∧ x.1 = h := by unfold fil; rw [List.mem_filter]; simp
/-- Buckets that hold just these items, each in the bucket of its hash, those of one hash in their order. -/
structure Inv (L : List (List It)) (all : List It) : Prop where
  inb : ∀ i l, L[i]? = some l → ∀ x ∈ l, (0 ≤ x.1 ∧ x.1 ≤ 4294967295) ∧ bk x.1 L.length = i
  same : ∀ h, fil h (L.getD (bk h L.length) []) = fil h all
  len : tot L = all.length
  m1 : 1 ≤ L.length
  m2 : L.length ≤ 60000
theorem getD_at {L : List (List It)} {i : Nat} {l : List It} (h : L[i]? = some l) : L.getD i [] = l := by rw [List.getD_eq_getElem?_getD, h]; rfl
theorem getD_set {L : List (List It)} {i j : Nat} {l : List It} (hi : i < L.length) : (L.set i l).getD j [] = if i = j then l else L.getD j [] := by
  rw [List.getD_eq_getElem?_getD, List.getD_eq_getElem?_getD]
  by_cases e : i = j
  · subst e; rw [List.getElem?_set_self hi, if_pos rfl]; rfl
  · rw [List.getElem?_set_ne e, if_neg e]
section
variable {L : List (List It)} {all : List It}
theorem Inv.row (h : Inv L all) (n : Int) : ∃ l, L[bk n L.length]? = some l ∧ L.getD (bk n L.length) [] = l := by
  have hlt := bk_lt (h := n) h.m1 (Nat.le_trans h.m2 (by decide))
  exact ⟨_, List.getElem?_eq_getElem hlt, getD_at (List.getElem?_eq_getElem hlt)⟩
theorem Inv.ok (h : Inv L all) (hl : all.length ≤ 65536) : Ok (all.length : Int) L :=
  ⟨h.m1, Nat.le_trans h.m2 (by decide), by omega, by omega, fun l hm => by have := tot_ge hm; have := h.len; omega, fun l hm x hx => by
    obtain ⟨i, hi⟩ := List.getElem?_of_mem hm
    exact (h.inb i l hi x hx).1⟩
theorem Inv.start {n : Nat} (h1 : 1 ≤ n) (h2 : n ≤ 60000) : Inv (List.replicate n []) [] where
  inb := fun i l hi x hx => by
    rw [List.getElem?_replicate] at hi
    split at hi
    · injection hi with hi; subst hi; cases hx
    · cases hi
  same := fun h => by
    rw [List.getD_eq_getElem?_getD, List.getElem?_replicate]
    split <;> rfl
  len := by simp [tot]
  m1 := by simpa using h1
  m2 := by simpa using h2
/-- An item more. -/
theorem Inv.add (h : Inv L all) (x : It) (hx : 0 ≤ x.1 ∧ x.1 ≤ 4294967295) : Inv (addL L (bk x.1 L.length) x) (all ++ [x]) := by
  obtain ⟨l, hl, hg⟩ := h.row x.1
  have hlt := (List.getElem?_eq_some_iff.1 hl).1
  have e : addL L (bk x.1 L.length) x = L.set (bk x.1 L.length) (l ++ [x]) := addL_at hl
  rw [e]
  refine ⟨fun i li hi y hy => ?_, fun n => ?_, ?_, by rw [List.length_set]; exact h.m1, by rw [List.length_set]; exact h.m2⟩
  · rw [List.length_set]
    by_cases ei : bk x.1 L.length = i
    · subst ei
      rw [List.getElem?_set_self hlt] at hi
      injection hi with hi
      subst hi
      rcases List.mem_append.1 hy with hy | hy
      · exact h.inb _ l hl y hy
      · simp at hy; subst hy; exact ⟨hx, rfl⟩
    · rw [List.getElem?_set_ne ei] at hi
      exact h.inb i li hi y hy
  · rw [List.length_set, getD_set hlt, fil_append, ← h.same n]
    by_cases ei : bk x.1 L.length = bk n L.length
    · rw [if_pos ei, fil_append, ← ei, hg]
    · rw [if_neg ei]
      have : fil n [x] = [] := fil_nil_of (fun y hy => by
        simp at hy; subst hy
        intro e; exact ei (by rw [e]))
      rw [this, List.append_nil]
  · have := tot_set (l ++ [x]) hl
    have := h.len
    simp at *
    omega
theorem fil_erase (n : Int) (x : It) : ∀ l : List It, fil n (l.erase x) = if x.1 = n then (fil n l).erase x else fil n l := by
  intro l
  induction l with
  | nil => simp [fil]
  | cons y l ih =>
    unfold fil at ih ⊢
    by_cases e : y = x
    · subst e
      simp only [List.erase_cons_head]
      by_cases en : y.1 = n
      · rw [if_pos en, List.filter_cons_of_pos (by simpa using en), List.erase_cons_head]
      · rw [if_neg en, List.filter_cons_of_neg (by simpa using en)]
    · rw [List.erase_cons_tail (by simpa using e)]
      by_cases ey : y.1 = n
      · rw [List.filter_cons_of_pos (by simpa using ey), ih, List.filter_cons_of_pos (by simpa using ey)]
        by_cases en : x.1 = n
        · rw [if_pos en, if_pos en, List.erase_cons_tail (by simpa using e)]
        · rw [if_neg en, if_neg en]
      · rw [List.filter_cons_of_neg (by simpa using ey), ih, List.filter_cons_of_neg (by simpa using ey)]
theorem erase_ix {x : It} : ∀ {l : List It}, ix l x < l.length → l.eraseIdx (ix l x) = l.erase x := by
  intro l
  induction l with
  | nil => intro h; simp [ix] at h
  | cons y l ih =>
    intro h
    unfold ix at h ih ⊢
    by_cases e : y = x
    · subst e; simp [List.findIdx_cons]
    · have e2 : (y == x) = false := by simpa using e
      rw [List.findIdx_cons] at h ⊢
      simp only [e2, cond_false] at h ⊢
      rw [List.eraseIdx_cons_succ, List.erase_cons_tail (by simpa using e), ih (by simpa using h)]
theorem ix_mem {l : List It} {x : It} (h : x ∈ l) : ix l x < l.length := by
  unfold ix
  exact List.findIdx_lt_length_of_exists ⟨x, h, by simp⟩
/-- Items with rising numbers. -/
def Rising (l : List It) (i : Nat) : Prop := l.Pairwise (fun a b => a.2 < b.2) ∧ ∀ x ∈ l, x.2 < (i : Int)
theorem rise_erase {l : List It} (h : l.Pairwise (fun a b => a.2 < b.2)) {k : Nat} {x : It} (hk : l[k]? = some x) : l.eraseIdx k = l.erase x := by
  induction l generalizing k with
  | nil => simp at hk
  | cons y l ih =>
    obtain ⟨h1, h2⟩ := List.pairwise_cons.1 h
    cases k with
    | zero => simp at hk; subst hk; simp
    | succ k =>
      simp at hk
      have hy : y ≠ x := fun e => by
        have := h1 x (List.mem_of_getElem? hk)
        rw [e] at this
        omega
      rw [List.eraseIdx_cons_succ, List.erase_cons_tail (by simpa using hy), ih h2 hk]
theorem Rising.more {l : List It} {i : Nat} (h : Rising l i) : Rising l (i + 1) := ⟨h.1, fun x hx => by have := h.2 x hx; omega⟩
theorem Rising.push {l : List It} {i : Nat} (h : Rising l i) (n : Int) : Rising (l ++ [(n, (i : Int))]) (i + 1) := by
  refine ⟨List.pairwise_append.2 ⟨h.1, List.pairwise_singleton _ _, fun a ha b hb => ?_⟩, fun x hx => ?_⟩
  · simp at hb; subst hb; exact h.2 a ha
  · rcases List.mem_append.1 hx with hx | hx
    · have := h.2 x hx; omega
    · simp at hx; subst hx; simp; omega
theorem Rising.take {l : List It} {i : Nat} (h : Rising l i) (k : Nat) : Rising (l.eraseIdx k) i :=
  ⟨h.1.sublist (List.eraseIdx_sublist l k), fun x hx => h.2 x ((List.eraseIdx_sublist l k).subset hx)⟩
/-- An item less. -/
theorem Inv.rem (h : Inv L all) {i k : Nat} (hr : Rising all i) {x : It} (hk : all[k]? = some x) :
    hasI (L.getD (bk x.1 L.length) []) x = true ∧ Inv (remL L (bk x.1 L.length) x) (all.eraseIdx k) := by
  obtain ⟨l, hl, hg⟩ := h.row x.1
  have hlt := (List.getElem?_eq_some_iff.1 hl).1
  have hin : x ∈ l := by
    have h1 : x ∈ fil x.1 all := mem_fil.2 ⟨List.mem_of_getElem? hk, rfl⟩
    rw [← h.same x.1, hg] at h1
    exact (mem_fil.1 h1).1
  have hix := ix_mem hin
  have hea := rise_erase hr.1 hk
  have her : remR l x = l.erase x := by unfold remR; rw [if_pos hix]; exact erase_ix hix
  have e : remL L (bk x.1 L.length) x = L.set (bk x.1 L.length) (l.erase x) := by unfold remL; rw [hg, her]
  refine ⟨by rw [hg]; exact decide_eq_true hix, ?_⟩
  rw [e, hea]
  refine ⟨fun j li hi y hy => ?_, fun n => ?_, ?_, by rw [List.length_set]; exact h.m1, by rw [List.length_set]; exact h.m2⟩
  · rw [List.length_set]
    by_cases ei : bk x.1 L.length = j
    · subst ei
      rw [List.getElem?_set_self hlt] at hi
      injection hi with hi
      subst hi
      exact h.inb _ l hl y (List.mem_of_mem_erase hy)
    · rw [List.getElem?_set_ne ei] at hi
      exact h.inb j li hi y hy
  · rw [List.length_set, getD_set hlt, fil_erase, ← h.same n]
    by_cases ei : bk x.1 L.length = bk n L.length
    · rw [if_pos ei, fil_erase, ← ei, hg]
    · rw [if_neg ei, if_neg (fun e => ei (by rw [e]))]
  · have h1 := tot_set (l.erase x) hl
    have h2 := List.length_erase_of_mem hin
    have h3 := List.length_erase_of_mem (List.mem_of_getElem? hk)
    have h4 := h.len
    have h5 := List.length_pos_of_mem hin
    have h6 := List.length_pos_of_mem (List.mem_of_getElem? hk)
    omega
theorem fil_filter {n : Int} {l : List It} {p : It → Bool} (hp : ∀ x ∈ l, x.1 = n → p x = true) : fil n (l.filter p) = fil n l := by
  unfold fil
  rw [List.filter_filter]
  apply List.filter_congr
  intro x hx
  by_cases e : x.1 = n
  · simp [e, hp x hx e]
  · have : (x.1 == n) = false := by simpa using e
    simp [this]
theorem go_stay (m : Nat) (l : List It) : (goL m l).length + (stayL m l).length = l.length := by
  unfold goL stayL
  induction l with
  | nil => rfl
  | cons x l ih =>
    by_cases e : bk x.1 (m + 1) = m
    · rw [List.filter_cons_of_pos (by simpa using e), List.filter_cons_of_neg (by simpa using e)]
      simp at ih ⊢; omega
    · rw [List.filter_cons_of_neg (by simpa using e), List.filter_cons_of_pos (by simpa using e)]
      simp at ih ⊢; omega
theorem splitL_at (L : List (List It)) (hm : 1 ≤ L.length) (j : Nat) : (splitL L)[j]? = if j = frm L.length then some (stayL L.length (L.getD (frm L.length) [])) else if j = L.length then some (goL L.length (L.getD (frm L.length) [])) else L[j]? := by
  have hf := frm_lt hm
  unfold splitL
  by_cases e1 : j = frm L.length
  · rw [if_pos e1, ← e1, List.getElem?_set_self (by simp; omega)]
  · rw [if_neg e1, List.getElem?_set_ne (Ne.symm e1)]
    by_cases e2 : j = L.length
    · rw [if_pos e2, ← e2, List.getElem?_set_self (by simp [e2])]
    · rw [if_neg e2, List.getElem?_set_ne (Ne.symm e2)]
      rcases Nat.lt_or_ge j L.length with h | h
      · rw [List.getElem?_append_left h]
      · rw [List.getElem?_eq_none (by simp; omega), List.getElem?_eq_none h]
theorem Inv.split (h : Inv L all) (hm : L.length < 60000) : Inv (splitL L) all := by
  have hf := frm_lt h.m1
  have hs := fun n : Int => bk_split (m := L.length) h.m1 (by omega) n
  obtain ⟨lst, hlst⟩ : ∃ l, L[frm L.length]? = some l := ⟨_, List.getElem?_eq_getElem hf⟩
  have hg := getD_at hlst
  have hat := splitL_at L h.m1
  have hlen := splitL_len L
  rw [hg] at hat
  refine ⟨fun i li hi x hx => ?_, fun n => ?_, ?_, by rw [hlen]; omega, by rw [hlen]; omega⟩
  · rw [hat] at hi
    rw [hlen]
    obtain ⟨s1, s2⟩ := hs x.1
    by_cases e1 : i = frm L.length
    · rw [if_pos e1] at hi
      injection hi with hi
      subst hi
      unfold stayL at hx
      rw [List.mem_filter] at hx
      have hne : bk x.1 (L.length + 1) ≠ L.length := by simpa using hx.2
      obtain ⟨r1, r2⟩ := h.inb _ lst hlst x hx.1
      refine ⟨r1, ?_⟩
      rcases s1 with s1 | s1
      · omega
      · exact absurd s1 hne
    · rw [if_neg e1] at hi
      by_cases e2 : i = L.length
      · rw [if_pos e2] at hi
        injection hi with hi
        subst hi
        unfold goL at hx
        rw [List.mem_filter] at hx
        have hne : bk x.1 (L.length + 1) = L.length := by simpa using hx.2
        exact ⟨(h.inb _ lst hlst x hx.1).1, by omega⟩
      · rw [if_neg e2] at hi
        obtain ⟨r1, r2⟩ := h.inb i li hi x hx
        refine ⟨r1, ?_⟩
        rcases s1 with s1 | s1
        · omega
        · have := s2 s1; omega
  · rw [hlen]
    obtain ⟨s1, s2⟩ := hs n
    rw [← h.same n, List.getD_eq_getElem?_getD, hat]
    by_cases e2 : bk n (L.length + 1) = L.length
    · rw [if_neg (by omega), if_pos e2, s2 e2, hg]
      show fil n (goL L.length lst) = _
      unfold goL
      exact fil_filter (fun x hx e => by simp [e, e2])
    · have e3 : bk n (L.length + 1) = bk n L.length := by
        rcases s1 with s1 | s1
        · exact s1
        · exact absurd s1 e2
      by_cases e1 : bk n (L.length + 1) = frm L.length
      · rw [if_pos e1, ← e3, e1, hg]
        show fil n (stayL L.length lst) = _
        unfold stayL
        exact fil_filter (fun x hx e => by simp [e, e2])
      · rw [if_neg e1, if_neg e2, e3, List.getD_eq_getElem?_getD]
  · have h1 := go_stay L.length lst
    unfold splitL
    rw [hg]
    have t1 := tot_set (L := L ++ [[]]) (i := L.length) (l := []) (goL L.length lst) (by rw [List.getElem?_append_right (Nat.le_refl _)]; simp)
    have t2 := tot_set (L := (L ++ [[]]).set L.length (goL L.length lst)) (i := frm L.length) (l := lst) (stayL L.length lst) (by rw [List.getElem?_set_ne (by omega), List.getElem?_append_left hf]; exact hlst)
    have t3 := tot_append L [[]]
    have t4 : tot [([] : List It)] = 0 := rfl
    have := h.len
    simp only [List.length_nil] at t1
    omega
theorem putAll_same {o : Nat} : ∀ (l : List It) (M : List (List It)) (r : List It), (∀ x ∈ l, bk x.1 M.length = o) → M[o]? = some r → putAll M l = M.set o (r ++ l) := by
  intro l
  induction l with
  | nil =>
    intro M r _ hr
    rw [List.append_nil]
    apply List.ext_getElem?
    intro k
    show M[k]? = _
    by_cases e : o = k
    · subst e; rw [List.getElem?_set_self (List.getElem?_eq_some_iff.1 hr).1, hr]
    · rw [List.getElem?_set_ne e]
  | cons x l ih =>
    intro M r hx hr
    have hlt := (List.getElem?_eq_some_iff.1 hr).1
    show putAll (addL M (bk x.1 M.length) x) l = _
    rw [hx x (List.mem_cons_self ..), addL_at hr, ih (M.set o (r ++ [x])) (r ++ [x]) (fun y hy => by rw [List.length_set]; exact hx y (List.mem_cons_of_mem _ hy)) (by rw [List.getElem?_set_self hlt]), List.set_set]
    simp
theorem tot_take {m : Nat} {l : List It} (hm : L.length = m + 1) (hl : L[m]? = some l) : tot (L.take m) + l.length = tot L := by
  have h : L = L.take m ++ [l] := by
    apply List.ext_getElem?
    intro j
    rcases Nat.lt_or_ge j m with hj | hj
    · rw [List.getElem?_append_left (by simp; omega), List.getElem?_take, if_pos hj]
    · rw [List.getElem?_append_right (by simp; omega)]
      rcases Nat.eq_or_lt_of_le hj with e | e
      · subst e; rw [hl]; simp [hm]
      · rw [List.getElem?_eq_none (by omega), List.getElem?_eq_none (by simp; omega)]
  conv => rhs; rw [h]
  rw [tot_append]
  simp [tot]
theorem Inv.join (h : Inv L all) (hm : 2 ≤ L.length) : Inv (joinL L) all := by
  obtain ⟨m, hml⟩ : ∃ m, L.length = m + 1 := ⟨L.length - 1, by omega⟩
  have hm1 : 1 ≤ m := by omega
  have hm2 := h.m2
  have hs := fun n : Int => bk_split (m := m) hm1 (by omega) n
  have hf := frm_lt hm1
  obtain ⟨lst, hlst⟩ : ∃ l, L[m]? = some l := ⟨_, List.getElem?_eq_getElem (by omega)⟩
  obtain ⟨r, hr⟩ : ∃ l, L[frm m]? = some l := ⟨_, List.getElem?_eq_getElem (by omega)⟩
  have hinb := h.inb
  have hsame := h.same
  rw [hml] at hinb hsame
  have htl : (L.take m).length = m := by simp; omega
  have hrt : (L.take m)[frm m]? = some r := by rw [List.getElem?_take, if_pos hf]; exact hr
  have hlast : ∀ x ∈ lst, bk x.1 m = frm m := fun x hx => (hs x.1).2 (hinb m lst hlst x hx).2
  have e : joinL L = (L.take m).set (frm m) (r ++ lst) := by
    unfold joinL
    rw [hml, Nat.add_sub_cancel, getD_at hlst]
    exact putAll_same lst (L.take m) r (fun x hx => by rw [htl]; exact hlast x hx) hrt
  have hold : ∀ (i : Nat) (li : List It), L[i]? = some li → i < m → ∀ x ∈ li, bk x.1 m = i := fun i li hi him x hx => by
    have h1 := (hinb i li hi x hx).2
    rcases (hs x.1).1 with h2 | h2
    · omega
    · omega
  rw [e]
  refine ⟨fun i li hi x hx => ?_, fun n => ?_, ?_, by simp; omega, by simp; omega⟩
  · rw [List.length_set, htl]
    by_cases ei : frm m = i
    · subst ei
      rw [List.getElem?_set_self (by omega)] at hi
      injection hi with hi
      subst hi
      rcases List.mem_append.1 hx with hx | hx
      · exact ⟨(hinb _ r hr x hx).1, hold _ r hr hf x hx⟩
      · exact ⟨(hinb _ lst hlst x hx).1, hlast x hx⟩
    · rw [List.getElem?_set_ne ei, List.getElem?_take] at hi
      split at hi
      · rename_i him
        exact ⟨(hinb _ li hi x hx).1, hold _ li hi him x hx⟩
      · cases hi
  · rw [List.length_set, htl, getD_set (by omega), ← hsame n]
    obtain ⟨s1, s2⟩ := hs n
    have hlt := bk_lt (h := n) hm1 (show m ≤ 1048576 by omega)
    by_cases e1 : bk n (m + 1) = m
    · have hb := s2 e1
      rw [if_pos hb.symm, e1, getD_at hlst, fil_append]
      have : fil n r = [] := fil_nil_of (fun x hx ex => by
        have := (hinb _ r hr x hx).2
        rw [ex, e1] at this
        omega)
      rw [this, List.nil_append]
    · have e3 : bk n (m + 1) = bk n m := by
        rcases s1 with s1 | s1
        · exact s1
        · exact absurd s1 e1
      rw [e3]
      by_cases eo : frm m = bk n m
      · rw [if_pos eo, ← eo, getD_at hr, fil_append]
        have : fil n lst = [] := fil_nil_of (fun x hx ex => by
          have := (hinb _ lst hlst x hx).2
          rw [ex] at this
          exact e1 this)
        rw [this, List.append_nil]
      · rw [if_neg eo, List.getD_eq_getElem?_getD, List.getD_eq_getElem?_getD, List.getElem?_take, if_pos hlt]
  · have t1 := tot_set (r ++ lst) hrt
    have t2 := tot_take hml hlst
    have := h.len
    simp only [List.length_append] at t1
    omega
end
/-- So far from the band, at most. -/
def Near (i least cnt m : Nat) : Prop := least ≤ m ∧ (if i = 0 then cnt ≤ 2 * m + 1 ∧ (least < m → m ≤ 2 * cnt + 2) else if i = 1 then cnt ≤ 2 * m ∧ (least < m → m ≤ 2 * cnt + 1) else cnt ≤ 2 * m ∧ (least < m → m ≤ 2 * cnt))
def Band (least cnt m : Nat) : Prop := least ≤ m ∧ cnt ≤ 2 * m ∧ (least < m → m ≤ 2 * cnt)
theorem wants_zero {least cnt m : Nat} (hm : m < 1048576) (hl : least ≤ m) : wantsI least (cnt : Int) m = 0 ↔ Band least cnt m := by
  unfold wantsI Band
  by_cases h1 : 2 * (m : Int) < (cnt : Int) ∧ m < 1048576
  · rw [if_pos h1]; constructor
    · intro h; cases h
    · intro h; omega
  · rw [if_neg h1]
    by_cases h2 : least < m ∧ 2 * (cnt : Int) < (m : Int)
    · rw [if_pos h2]; constructor
      · intro h; cases h
      · intro h; omega
    · rw [if_neg h2]; constructor
      · intro _; omega
      · intro _; rfl
theorem Band.near0 {least cnt m : Nat} (h : Band least cnt m) : Near 0 least (cnt + 1) m ∧ (1 ≤ cnt → Near 0 least (cnt - 1) m) := by
  unfold Band at h; unfold Near
  simp
  omega
theorem near_split {i least cnt m : Nat} (hi : i < 2) (h : Near i least cnt m) (hw : 2 * m < cnt) (hm : 1 ≤ m) : Near (i + 1) least cnt (m + 1) := by
  unfold Near at h ⊢
  have : i = 0 ∨ i = 1 := by omega
  rcases this with rfl | rfl <;> simp at h ⊢ <;> omega
theorem near_join {i least cnt m : Nat} (hi : i < 2) (h : Near i least cnt m) (hw : least < m ∧ 2 * cnt < m) : Near (i + 1) least cnt (m - 1) := by
  unfold Near at h ⊢
  have : i = 0 ∨ i = 1 := by omega
  rcases this with rfl | rfl <;> simp at h ⊢ <;> omega
theorem near_two {least cnt m : Nat} (h : Near 2 least cnt m) : Band least cnt m := by
  unfold Near at h; unfold Band
  simp at h
  omega
end Go.Proofs.Ytjipncpplpfobaa.Lb
