/- Plain: a heap's items, their words, which words may be, which terms words have. No program in sight. -/
import Derived.Test.YtnedjmjcbmoknaaFlSpec
namespace Go.Proofs.Ytnedjmjcbmoknaa.Hp
open Go.RowKit K Wd At Fl
set_option linter.unusedVariables false
set_option linter.unusedSimpArgs false

/-- A boxed one: its kind, its function's number, the words of its parts. -/
structure It where
  k : Int
  n : Int
  ws : List Int
instance : Inhabited It := ⟨⟨0, 0, []⟩⟩
def itW (x : It) : List Int := hd x.k x.n x.ws.length ++ x.ws
def hW : List It → List Int
  | [] => []
  | x :: r => itW x ++ hW r
theorem hW_append (a b : List It) : hW (a ++ b) = hW a ++ hW b := by
  induction a with
  | nil => rfl
  | cons x r ih => simp only [List.cons_append, hW, ih, List.append_assoc]
theorem hW_one (x : It) : hW [x] = itW x := by simp [hW]
/-- What begins at a place. -/
def itAt : List It → Int → Option It
  | [], _ => none
  | x :: r, p => if p = 0 then some x else itAt r (p - ((itW x).length : Int))
def kindAt (H : List It) (p : Int) : Int := match itAt H p with
  | some x => x.k
  | none => 0
theorem kindAt_some {H : List It} {p : Int} {x : It} (h : itAt H p = some x) : kindAt H p = x.k := by unfold kindAt; rw [h]
theorem kindAt_none {H : List It} {p : Int} (h : itAt H p = none) : kindAt H p = 0 := by unfold kindAt; rw [h]
theorem kindAt_box {H : List It} {p k : Int} (h : kindAt H p = k) (hk : k ≠ 0) : ∃ x, itAt H p = some x ∧ x.k = k := by
  unfold kindAt at h
  cases hx : itAt H p with
  | none => rw [hx] at h; exact absurd h.symm hk
  | some x => rw [hx] at h; exact ⟨x, rfl, h⟩
structure ItOk (x : It) : Prop where
  box : boxK x.k
  cons : x.k = 9 → x.n = 0 ∧ x.ws.length = 2
  tup : x.k = 7 → x.n = 0
  fn : x.k = 5 → 0 ≤ x.n ∧ x.n ≤ 1073741824
  len : x.ws.length ≤ 64
theorem itW_len (x : It) : ((itW x).length : Int) = (if x.k = 7 ∨ x.k = 5 then 1 else 0) + x.ws.length := by
  have := hd_len x.k x.n x.ws.length
  unfold itW
  rw [List.length_append]
  omega
theorem ItOk.pos {x : It} (h : ItOk x) : 0 < (itW x).length := by
  have h1 := itW_len x
  have h2 := h.box
  unfold boxK at h2
  rcases h2 with h2 | h2 | h2
  · rw [if_pos (.inl h2)] at h1; omega
  · rw [if_pos (.inr h2)] at h1; omega
  · have := (h.cons h2).2; split at h1 <;> omega
def Pos (H : List It) : Prop := ∀ x ∈ H, 0 < (itW x).length
theorem itAt_append (a b : List It) : ∀ p, itAt (a ++ b) p = match itAt a p with
    | some x => some x
    | none => itAt b (p - ((hW a).length : Int)) := by
  induction a with
  | nil => intro p; simp [itAt, hW]
  | cons x r ih =>
    intro p
    simp only [List.cons_append, itAt]
    by_cases h : p = 0
    · rw [if_pos h, if_pos h]
    · rw [if_neg h, if_neg h, ih]
      simp only [hW, List.length_append]
      rw [show p - ((itW x).length : Int) - ((hW r).length : Int) = p - (((itW x).length + (hW r).length : Nat) : Int) by omega]
theorem itAt_mem {H : List It} : ∀ {p : Int} {x : It}, itAt H p = some x → x ∈ H := by
  induction H with
  | nil => intro p x h; cases h
  | cons y r ih =>
    intro p x h
    simp only [itAt] at h
    split at h
    · injection h with h; subst h; simp
    · exact List.mem_cons_of_mem _ (ih h)
theorem itAt_seg {H : List It} : ∀ {p : Int} {x : It}, itAt H p = some x → 0 ≤ p ∧ p + ((itW x).length : Int) ≤ ((hW H).length : Int) ∧ Seg (hW H) p.toNat (itW x) := by
  induction H with
  | nil => intro p x h; cases h
  | cons y r ih =>
    intro p x h
    simp only [itAt] at h
    split at h
    · rename_i h0
      injection h with h; subst h; subst h0
      refine ⟨by omega, by simp only [hW, List.length_append]; omega, fun i v hv => ?_⟩
      simp only [hW, Int.toNat_zero, Nat.zero_add]
      rw [List.getElem?_append_left (List.getElem?_eq_some_iff.1 hv).1]; exact hv
    · obtain ⟨h1, h2, h3⟩ := ih h
      refine ⟨by omega, by simp only [hW, List.length_append]; omega, fun i v hv => ?_⟩
      simp only [hW]
      have h4 := h3 i v hv
      rw [List.getElem?_append_right (by omega)]
      rw [← h4]
      congr 1
      omega
theorem itAt_app {a b : List It} {p : Int} {x : It} (h : itAt a p = some x) : itAt (a ++ b) p = some x := by rw [itAt_append, h]
theorem itAt_lt {H : List It} (hp : Pos H) {p : Int} {x : It} (h : itAt H p = some x) : 0 ≤ p ∧ p < ((hW H).length : Int) := by
  obtain ⟨h1, h2, _⟩ := itAt_seg h
  have := hp x (itAt_mem h)
  omega
theorem itAt_out {H : List It} (hp : Pos H) {p : Int} (h : p < 0 ∨ ((hW H).length : Int) ≤ p) : itAt H p = none := by
  cases hx : itAt H p with
  | none => rfl
  | some x => have := itAt_lt hp hx; omega
theorem itAt_right {a b : List It} (ha : Pos a) {p : Int} {x : It} (h : itAt b p = some x) : itAt (a ++ b) (((hW a).length : Int) + p) = some x := by
  obtain ⟨h1, _⟩ := itAt_seg h
  rw [itAt_append, itAt_out ha (.inr (by omega))]
  simp only
  rw [show ((hW a).length : Int) + p - ((hW a).length : Int) = p by omega, h]
theorem itAt_or {a b : List It} (ha : Pos a) (hb : Pos b) (p : Int) (x : It) : itAt (a ++ b) p = some x ↔ itAt a p = some x ∨ itAt b (p - ((hW a).length : Int)) = some x := by
  rw [itAt_append]
  cases h : itAt a p with
  | none => simp
  | some y =>
    have h1 := itAt_lt ha h
    simp only [itAt_out hb (.inl (show p - ((hW a).length : Int) < 0 by omega))]
    simp
theorem itAt_zero (x : It) (r : List It) : itAt (x :: r) 0 = some x := by simp [itAt]
theorem kindAt_snoc {H : List It} (hp : Pos H) (x : It) (p : Int) : kindAt (H ++ [x]) p = if p = ((hW H).length : Int) then x.k else kindAt H p := by
  unfold kindAt
  rw [itAt_append]
  by_cases h : p = ((hW H).length : Int)
  · rw [if_pos h, itAt_out hp (.inr (by omega))]
    simp only
    rw [show p - ((hW H).length : Int) = 0 by omega, itAt_zero]
  · rw [if_neg h]
    cases hx : itAt H p with
    | some y => rfl
    | none => simp only [itAt]; rw [if_neg (by omega)]
theorem Pos.app {a b : List It} (ha : Pos a) (hb : Pos b) : Pos (a ++ b) := fun x hx => by
  rcases List.mem_append.1 hx with h | h
  · exact ha x h
  · exact hb x h
/-! ### Which words may be -/
def may (H : List It) (a : Nat) (w : Int) : Bool :=
  if unE w = 0 then (if boxd w = true then decide (kindAt H (unN w) = unK w) else if unK w = 2 then decide (unN w < (a : Int)) else !decide (unK w = 0 ∨ 10 ≤ unK w)) else false
theorem boxd_K {w : Int} (h : unE w = 0) : boxd w = true ↔ boxK (unK w) := by
  have : unK w = w % 16 := by unfold unK; rw [if_pos h]
  rw [this]
  unfold boxd boxK
  rw [decide_eq_true_eq]
  omega
theorem boxK_ne {k : Int} (h : boxK k) : k ≠ 0 ∧ k ≠ 2 ∧ 2 ≤ k ∧ k < 10 := by unfold boxK at h; omega
theorem may_more {H : List It} {a : Nat} {w : Int} (h : may H a w = true) (G : List It) {a' : Nat} (ha : a ≤ a') : may (H ++ G) a' w = true := by
  unfold may at h ⊢
  split at h
  · rename_i he
    rw [if_pos he]
    split at h
    · rename_i hb
      rw [if_pos hb]
      have h := of_decide_eq_true h
      have hk := boxK_ne ((boxd_K he).1 hb)
      obtain ⟨x, hx, hxk⟩ := kindAt_box h hk.1
      rw [kindAt_some (itAt_app hx)]
      exact decide_eq_true hxk
    · rename_i hb
      rw [if_neg hb]
      split at h
      · rename_i h2
        rw [if_pos h2]
        have h := of_decide_eq_true h
        exact decide_eq_true (by omega)
      · rename_i h2
        rw [if_neg h2]; exact h
  · cases h
theorem may_E {H : List It} {a : Nat} {w : Int} (h : may H a w = true) : unE w = 0 := by
  unfold may at h
  split at h
  · assumption
  · cases h
theorem may_box {H : List It} {a : Nat} {w : Int} (h : may H a w = true) (hb : boxd w = true) : ∃ x, itAt H (unN w) = some x ∧ x.k = unK w := by
  have he := may_E h
  unfold may at h
  rw [if_pos he, if_pos hb] at h
  exact kindAt_box (of_decide_eq_true h) (boxK_ne ((boxd_K he).1 hb)).1
structure Wf (H : List It) (a : Nat) : Prop where
  ok : ∀ x ∈ H, ItOk x
  words : ∀ x ∈ H, ∀ u ∈ x.ws, U64 u ∧ may H a u = true
theorem Wf.pos {H : List It} {a : Nat} (h : Wf H a) : Pos H := fun x hx => (h.ok x hx).pos
theorem Wf.nil (a : Nat) : Wf [] a := ⟨(fun x hx => by cases hx), (fun x hx => by cases hx)⟩
theorem Wf.app {H G : List It} {a a' : Nat} (h : Wf H a) (ha : a ≤ a') (hG : ∀ x ∈ G, ItOk x ∧ ∀ u ∈ x.ws, U64 u ∧ may (H ++ G) a' u = true) : Wf (H ++ G) a' := by
  refine ⟨fun x hx => ?_, fun x hx u hu => ?_⟩
  · rcases List.mem_append.1 hx with h1 | h1
    · exact h.ok x h1
    · exact (hG x h1).1
  · rcases List.mem_append.1 hx with h1 | h1
    · exact ⟨(h.words x h1 u hu).1, may_more (h.words x h1 u hu).2 G ha⟩
    · exact (hG x h1).2 u hu
/-! ### Which term a word has -/
inductive Rep (H : List It) (L : List ByteArray) : Tm → Int → Prop
  | leaf (k n w : Int) (hk : leafK k) (hu : U64 w) (he : unE w = 0) (h1 : unK w = k) (h2 : unN w = n) : Rep H L (.mk k n ⟨#[]⟩ []) w
  | atom (s : ByteArray) (w : Int) (i : Nat) (hu : U64 w) (he : unE w = 0) (h1 : unK w = 2) (h2 : unN w = (i : Int)) (hs : L[i]? = some s) : Rep H L (.mk 2 0 s []) w
  | box (x : It) (l : List Tm) (w : Int) (hu : U64 w) (he : unE w = 0) (hb : boxK x.k) (h1 : unK w = x.k) (hx : itAt H (unN w) = some x) (hl : x.ws.length = l.length) (hp : ∀ (i : Nat) (u : Tm) (v : Int), l[i]? = some u → x.ws[i]? = some v → Rep H L u v) : Rep H L (.mk x.k x.n ⟨#[]⟩ l) w
theorem Rep.more {H : List It} {L : List ByteArray} {t : Tm} {w : Int} (h : Rep H L t w) (G : List It) {L' : List ByteArray} (hL : ∃ x, L' = L ++ x) : Rep (H ++ G) L' t w := by
  induction h with
  | leaf k n w hk hu he h1 h2 => exact .leaf k n w hk hu he h1 h2
  | atom s w i hu he h1 h2 hs =>
    obtain ⟨x, rfl⟩ := hL
    exact .atom s w i hu he h1 h2 (by rw [List.getElem?_append_left (List.getElem?_eq_some_iff.1 hs).1]; exact hs)
  | box x l w hu he hb h1 hx hl hp ih => exact .box x l w hu he hb h1 (itAt_app hx) hl ih
theorem Rep.u64 {H : List It} {L : List ByteArray} {t : Tm} {w : Int} (h : Rep H L t w) : U64 w ∧ unE w = 0 ∧ unK w = t.k := by
  cases h with
  | leaf k n w hk hu he h1 h2 => exact ⟨hu, he, h1⟩
  | atom s w i hu he h1 h2 hs => exact ⟨hu, he, h1⟩
  | box x l w hu he hb h1 hx hl hp => exact ⟨hu, he, h1⟩
theorem Rep.may {H : List It} {L : List ByteArray} {t : Tm} {w : Int} (h : Rep H L t w) : may H L.length w = true := by
  unfold Hp.may
  cases h with
  | leaf k n w hk hu he h1 h2 =>
    unfold leafK at hk
    rw [if_pos he, if_neg (fun hb => by have := (boxd_K he).1 hb; unfold boxK at this; omega), if_neg (by omega)]
    simp; omega
  | atom s w i hu he h1 h2 hs =>
    have := (List.getElem?_eq_some_iff.1 hs).1
    rw [if_pos he, if_neg (fun hb => by have := (boxd_K he).1 hb; unfold boxK at this; omega), if_pos h1]
    exact decide_eq_true (by omega)
  | box x l w hu he hb h1 hx hl hp =>
    rw [if_pos he, if_pos ((boxd_K he).2 (by rw [h1]; exact hb))]
    exact decide_eq_true (by rw [kindAt_some hx, h1])
/-! ### What is laid of a term -/
mutual
def its (f : ByteArray → Int) : Tm → Nat → List It
  | .mk k n s l, p => if boxK k then ⟨k, n, (layP f l (p + (hd k n l.length).length + l.length)).1⟩ :: itsL f l (p + (hd k n l.length).length + l.length) else []
def itsL (f : ByteArray → Int) : List Tm → Nat → List It
  | [], p => []
  | u :: r, p => its f u p ++ itsL f r (p + (lay f u p).length)
end
theorem its_mk (f : ByteArray → Int) (k n : Int) (s : ByteArray) (l : List Tm) (p : Nat) : its f (.mk k n s l) p = if boxK k then ⟨k, n, (layP f l (p + (hd k n l.length).length + l.length)).1⟩ :: itsL f l (p + (hd k n l.length).length + l.length) else [] := by rw [its]
theorem itsL_nil (f : ByteArray → Int) (p : Nat) : itsL f [] p = [] := by rw [itsL]
theorem itsL_cons (f : ByteArray → Int) (u : Tm) (r : List Tm) (p : Nat) : itsL f (u :: r) p = its f u p ++ itsL f r (p + (lay f u p).length) := by rw [itsL]
theorem its_hW (f : ByteArray → Int) : ∀ t p, hW (its f t p) = lay f t p := by
  refine Tm.ind fun t ih p => ?_
  obtain ⟨k, n, s, l⟩ := t
  simp only [Tm.l_mk] at ih
  have hl : ∀ (r : List Tm), (∀ u ∈ r, u ∈ l) → ∀ p, hW (itsL f r p) = (layP f r p).2 := fun r => by
    induction r with
    | nil => intro _ p; rw [itsL_nil, layP_nil]; rfl
    | cons u r ihr =>
      intro hm p
      rw [itsL_cons, layP_cons, hW_append, ih u (hm u (by simp)), ihr (fun v hv => hm v (by simp [hv]))]
  rw [its_mk, lay_mk]
  split
  · simp only [hW]
    rw [hl l (fun u hu => hu)]
    unfold itW
    simp only [layP_len1, List.append_assoc]
  · rfl
theorem itsL_hW (f : ByteArray → Int) (r : List Tm) : ∀ p, hW (itsL f r p) = (layP f r p).2 := by
  induction r with
  | nil => intro p; rw [itsL_nil, layP_nil]; rfl
  | cons u r ihr => intro p; rw [itsL_cons, layP_cons, hW_append, its_hW, ihr]
/-! ### What may be -/
theorem bytes_empty {s : ByteArray} (h : s.size = 0) : s = ⟨#[]⟩ := by
  obtain ⟨⟨d⟩⟩ := s
  have : d.length = 0 := h
  rw [List.eq_nil_of_length_eq_zero this]
theorem snd_box {k n : Int} {s : ByteArray} {l : List Tm} (h : soundB (.mk k n s l) = true) (hb : boxK k) : s = ⟨#[]⟩ ∧ l.length ≤ 64 ∧ (k = 9 → n = 0 ∧ l.length = 2) ∧ (k = 7 → n = 0) ∧ (k = 5 → 0 ≤ n ∧ n ≤ 1073741824) := by
  rw [soundB_mk] at h
  unfold soundK at h
  unfold boxK at hb
  rcases hb with e | e | e
  · subst e
    simp at h
    exact ⟨h.2.1, h.2.2, fun e => by omega, fun _ => h.1, fun e => by omega⟩
  · subst e
    simp at h
    exact ⟨h.2.2.1, h.2.2.2, fun e => by omega, fun e => by omega, fun _ => ⟨h.1, h.2.1⟩⟩
  · subst e
    simp at h
    exact ⟨h.2.1, by omega, fun _ => ⟨h.1, h.2.2⟩, fun e => by omega, fun e => by omega⟩
theorem snd_sym {n : Int} {s : ByteArray} {l : List Tm} (h : soundB (.mk 2 n s l) = true) : n = 0 ∧ l = [] ∧ s.size ≤ 64 := by
  rw [soundB_mk] at h
  unfold soundK at h
  rw [if_neg (by omega), if_pos rfl] at h
  have h := of_decide_eq_true h
  exact ⟨h.1, List.eq_nil_of_length_eq_zero h.2.2, h.2.1⟩
theorem snd_leaf {k n : Int} {s : ByteArray} {l : List Tm} (h : soundB (.mk k n s l) = true) (h2 : k ≠ 2) (hb : ¬ boxK k) : leafK k ∧ low k ≤ n ∧ n ≤ high k ∧ s = ⟨#[]⟩ ∧ l = [] := by
  rw [soundB_mk] at h
  unfold soundK at h
  have hn : ¬(k = 7 ∨ k = 5 ∨ k = 9) := hb
  by_cases h1 : k = 1
  · subst h1
    obtain ⟨q1, q2, q3, q4⟩ := of_decide_eq_true (show decide (-576460752303423488 ≤ n ∧ n ≤ 576460752303423487 ∧ s.size = 0 ∧ l.length = 0) = true from h)
    exact ⟨Or.inl rfl, q1, q2, bytes_empty q3, List.eq_nil_of_length_eq_zero q4⟩
  · rw [if_neg h1, if_neg h2] at h
    by_cases h3 : k = 3 ∨ k = 4 ∨ k = 6
    · rw [if_pos h3] at h
      obtain ⟨q1, q2, q3, q4⟩ := of_decide_eq_true h
      obtain ⟨g1, g2⟩ := high_num (k := k) (by omega)
      exact ⟨by unfold leafK; omega, by rw [g1]; exact q1, by rw [g2]; exact q2, bytes_empty q3, List.eq_nil_of_length_eq_zero q4⟩
    · rw [if_neg h3, if_neg (by omega), if_neg (by omega)] at h
      by_cases h8 : k = 8
      · subst h8
        obtain ⟨q1, q2, q3⟩ := of_decide_eq_true (show decide (n = 0 ∧ s.size = 0 ∧ l.length = 0) = true from h)
        exact ⟨by unfold leafK; omega, by show (0 : Int) ≤ n; omega, by show n ≤ (0 : Int); omega, bytes_empty q2, List.eq_nil_of_length_eq_zero q3⟩
      · rw [if_neg h8, if_neg (by omega)] at h
        cases h
theorem own_facts {f : ByteArray → Int} {k n : Int} {s : ByteArray} {l : List Tm} {p : Nat} (h : soundB (.mk k n s l) = true) (hf : k = 2 → 0 ≤ f s ∧ f s ≤ 1073741824) (hp : p ≤ 1073741824) :
    unE (ownW f (.mk k n s l) p) = 0 ∧ unK (ownW f (.mk k n s l) p) = k ∧ unN (ownW f (.mk k n s l) p) = if k = 2 then f s else if boxK k then (p : Int) else n := by
  rw [ownW_mk]
  by_cases h2 : k = 2
  · subst h2
    have hf := hf rfl
    simp only [if_true]
    exact pack_facts (by omega) ⟨hf.1, hf.2, fun e => by omega⟩
  · simp only [if_neg h2]
    by_cases hb : boxK k
    · simp only [if_pos hb]
      have hk := hb
      unfold boxK at hk
      obtain ⟨g1, g2⟩ := high_num (k := k) (by omega)
      exact pack_facts (by omega) ⟨by rw [g1]; omega, by rw [g2]; omega, fun e => by omega⟩
    · simp only [if_neg hb]
      obtain ⟨hl, h3, h4, _⟩ := snd_leaf h h2 hb
      unfold leafK at hl
      exact pack_facts (by omega) ⟨h3, h4, fun e => by omega⟩
theorem snd_parts {t : Tm} (h : sndL (subs t) = true) : soundB t = true ∧ ∀ u ∈ t.l, sndL (subs u) = true := by
  rw [sndL_subs, Bool.and_eq_true] at h
  exact ⟨h.1, fun u hu => sndL_mem h.2 hu⟩
theorem its_ok (f : ByteArray → Int) : ∀ t, sndL (subs t) = true → ∀ p, ∀ x ∈ its f t p, ItOk x := by
  refine Tm.ind fun t ih hs p => ?_
  obtain ⟨hsb, hsl⟩ := snd_parts hs
  obtain ⟨k, n, s, l⟩ := t
  simp only [Tm.l_mk] at ih hsl
  have hl : ∀ (r : List Tm), (∀ u ∈ r, u ∈ l) → ∀ p, ∀ x ∈ itsL f r p, ItOk x := fun r => by
    induction r with
    | nil => intro _ p x hx; rw [itsL_nil] at hx; cases hx
    | cons u r ihr =>
      intro hm p x hx
      rw [itsL_cons, List.mem_append] at hx
      rcases hx with hx | hx
      · exact ih u (hm u (by simp)) (hsl u (hm u (by simp))) p x hx
      · exact ihr (fun v hv => hm v (by simp [hv])) _ x hx
  rw [its_mk]
  split
  · rename_i hb
    obtain ⟨h1, h2, h3, h4, h5⟩ := snd_box hsb hb
    intro x hx
    rcases List.mem_cons.1 hx with rfl | hx
    · exact ⟨hb, fun e => ⟨(h3 e).1, by simp only [layP_len1]; exact (h3 e).2⟩, h4, h5, by simp only [layP_len1]; exact h2⟩
    · exact hl l (fun u hu => hu) _ x hx
  · intro x hx; cases hx
/-- From place p on, H has the items of G. -/
def Holds (H : List It) (p : Nat) (G : List It) : Prop := ∀ q x, itAt G q = some x → itAt H ((p : Int) + q) = some x
theorem Holds.app {H G1 G2 : List It} {p : Nat} (h1 : Pos G1) (h : Holds H p (G1 ++ G2)) : Holds H p G1 ∧ Holds H (p + (hW G1).length) G2 := by
  refine ⟨fun q x hx => h q x (itAt_app hx), fun q x hx => ?_⟩
  have := h _ x (itAt_right h1 hx)
  rw [← this]
  congr 1
  omega
theorem Holds.self {H G : List It} (h : Pos H) : Holds (H ++ G) (hW H).length G := fun q x hx => itAt_right h hx
theorem Pos.of_ok {G : List It} (h : ∀ x ∈ G, ItOk x) : Pos G := fun x hx => (h x hx).pos
/-- What is laid of a term is it, and its items' words are terms. -/
theorem its_rep {H : List It} {L : List ByteArray} (hL : L.length ≤ 4096) : ∀ t, sndL (subs t) = true → (∀ s ∈ atoms t, s ∈ L) → ∀ p, p + (lay (ix L) t p).length ≤ 1073741824 → Holds H p (its (ix L) t p) →
    Rep H L t (ownW (ix L) t p) ∧ ∀ x ∈ its (ix L) t p, ∀ u ∈ x.ws, ∃ t', Rep H L t' u := by
  refine Tm.ind fun t ih hs ha p hp hH => ?_
  obtain ⟨hsb, hsl⟩ := snd_parts hs
  have hU : U64 (ownW (ix L) t p) := ownW_range _ _ _
  obtain ⟨k, n, s, l⟩ := t
  simp only [Tm.l_mk] at ih hsl
  obtain ⟨e1, e2, e3⟩ := own_facts (f := ix L) (p := p) hsb (fun h2 => by
    subst h2
    rw [atoms_mk, if_pos rfl] at ha
    have := idx_lt (ha s (by simp))
    unfold ix; omega) (by omega)
  by_cases h2 : k = 2
  · subst h2
    obtain ⟨rfl, rfl, _⟩ := snd_sym hsb
    simp only [if_true] at e3
    rw [atoms_mk, if_pos rfl] at ha
    refine ⟨.atom s _ _ hU e1 e2 e3 (idx_get (ha s (by simp))), fun x hx => ?_⟩
    rw [its_mk, if_neg (by decide)] at hx
    cases hx
  · rw [if_neg h2] at e3
    by_cases hb : boxK k
    · rw [if_pos hb] at e3
      obtain ⟨rfl, h1, h3, h4, h5⟩ := snd_box hsb hb
      have hok := its_ok (ix L) (.mk k n ⟨#[]⟩ l) hs p
      rw [its_mk, if_pos hb] at hH hok ⊢
      rw [lay_mk, if_pos hb] at hp
      rw [atoms_mk, if_neg h2] at ha
      have hl1 := layP_len1 (ix L) l (p + (hd k n l.length).length + l.length)
      obtain ⟨x0, hx0⟩ : ∃ x0 : It, (⟨k, n, (layP (ix L) l (p + (hd k n l.length).length + l.length)).1⟩ : It) = x0 := ⟨_, rfl⟩
      have hw0 : (itW x0).length = (hd k n l.length).length + l.length := by rw [← hx0]; unfold itW; simp only [List.length_append, hl1]
      have hH0 := hH
      rw [show ((⟨k, n, (layP (ix L) l (p + (hd k n l.length).length + l.length)).1⟩ : It) :: itsL (ix L) l (p + (hd k n l.length).length + l.length)) = [x0] ++ itsL (ix L) l (p + (hd k n l.length).length + l.length) by rw [hx0]; rfl] at hH
      obtain ⟨hA, hB⟩ := hH.app (fun y hy => by simp at hy; subst hy; rw [← hx0]; exact (hok _ (by simp)).pos)
      rw [hW_one, hw0] at hB
      simp only [List.length_append, hl1] at hp
      have hgo : ∀ (r : List Tm), (∀ u ∈ r, u ∈ l) → ∀ q, q + (layP (ix L) r q).2.length ≤ 1073741824 → Holds H q (itsL (ix L) r q) →
          (∀ (i : Nat) (u : Tm) (v : Int), r[i]? = some u → (layP (ix L) r q).1[i]? = some v → Rep H L u v) ∧ (∀ y ∈ itsL (ix L) r q, ∀ u ∈ y.ws, ∃ t', Rep H L t' u) := fun r => by
        induction r with
        | nil => intro _ q _ _; exact ⟨fun i u v hu => by simp at hu, fun y hy => by rw [itsL_nil] at hy; cases hy⟩
        | cons u r ihr =>
          intro hm q hq hH
          rw [layP_cons] at hq ⊢
          rw [itsL_cons] at hH ⊢
          simp only [List.length_append] at hq
          obtain ⟨z1, z2⟩ := hH.app (Pos.of_ok (its_ok _ u (hsl u (hm u (by simp))) q))
          rw [its_hW] at z2
          obtain ⟨y1, y2⟩ := ih u (hm u (by simp)) (hsl u (hm u (by simp))) (fun s hs => ha s (atomsL_mem (hm u (by simp)) hs)) q (by omega) z1
          obtain ⟨y3, y4⟩ := ihr (fun v hv => hm v (by simp [hv])) (q + (lay (ix L) u q).length) (by omega) z2
          refine ⟨fun i u' v hu hv => ?_, fun y hy => ?_⟩
          · cases i with
            | zero =>
              simp at hu hv
              subst hu hv
              exact y1
            | succ i => simp at hu hv; exact y3 i u' v hu hv
          · rcases List.mem_append.1 hy with h | h
            · exact y2 y h
            · exact y4 y h
      obtain ⟨g1, g2⟩ := hgo l (fun u hu => hu) (p + (hd k n l.length).length + l.length) (by omega) (by rw [Nat.add_assoc]; rw [Nat.add_assoc] at hB; exact hB)
      have hat := hA 0 x0 (itAt_zero x0 [])
      rw [Int.add_zero] at hat
      refine ⟨?_, fun y hy u hu => ?_⟩
      · have hk0 : x0.k = k := by rw [← hx0]
        have hn0 : x0.n = n := by rw [← hx0]
        have hs0 : x0.ws = (layP (ix L) l (p + (hd k n l.length).length + l.length)).1 := by rw [← hx0]
        have := Rep.box (H := H) (L := L) x0 l _ hU e1 (by rw [hk0]; exact hb) (by rw [hk0]; exact e2) (by rw [e3]; exact hat) (by rw [hs0]; exact hl1) (by rw [hs0]; exact g1)
        rw [hk0, hn0] at this
        exact this
      · rcases List.mem_cons.1 hy with rfl | hy
        · simp only at hu
          obtain ⟨i, hi, rfl⟩ := List.getElem_of_mem hu
          have hi2 : i < l.length := by rw [← hl1]; exact hi
          exact ⟨l[i], g1 i l[i] _ (List.getElem?_eq_getElem hi2) (List.getElem?_eq_getElem hi)⟩
        · exact g2 y hy u hu
    · rw [if_neg hb] at e3
      obtain ⟨hlf, h3, h4, rfl, rfl⟩ := snd_leaf hsb h2 hb
      refine ⟨.leaf k n _ hlf hU e1 e2 e3, fun x hx => ?_⟩
      rw [its_mk, if_neg hb] at hx
      cases hx
/-! ### Words moved to another place -/
def reb (d w : Int) : Int := if boxd w = true then packW (unK w) (unN w + d) else w
theorem boxd_head {k : Int} (n : Int) (h : k = 10 ∨ k = 11) : boxd (packW k n) = false := by
  have : packW k n % 16 = k ∨ packW k n % 16 = 0 := by
    unfold packW
    split
    · left; omega
    · right; rfl
  unfold boxd
  apply decide_eq_false
  omega
theorem hd_box {k n : Int} {m : Nat} : ∀ w ∈ hd k n m, boxd w = false := by
  intro w hw
  unfold hd at hw
  split at hw
  · simp at hw; subst hw; exact boxd_head _ (.inl rfl)
  · split at hw
    · simp at hw; subst hw; exact boxd_head _ (.inr rfl)
    · cases hw
theorem reb_hd (d k n : Int) (m : Nat) : (hd k n m).map (reb d) = hd k n m := by
  have : ∀ w ∈ hd k n m, reb d w = w := fun w hw => by unfold reb; rw [hd_box w hw]; rfl
  exact (List.map_congr_left this).trans (List.map_id _)
/-- Are the numbers of a term's atoms in range? -/
def Rng (f : ByteArray → Int) (t : Tm) : Prop := ∀ s ∈ atoms t, 0 ≤ f s ∧ f s ≤ 1073741824
theorem Rng.part {f : ByteArray → Int} {k n : Int} {s : ByteArray} {l : List Tm} (h : Rng f (.mk k n s l)) (h2 : k ≠ 2) {u : Tm} (hu : u ∈ l) : Rng f u := fun x hx => h x (by rw [atoms_mk, if_neg h2]; exact atomsL_mem hu hx)
theorem Rng.own {f : ByteArray → Int} {k n : Int} {s : ByteArray} {l : List Tm} (h : Rng f (.mk k n s l)) : k = 2 → 0 ≤ f s ∧ f s ≤ 1073741824 := fun h2 => h s (by rw [atoms_mk, if_pos h2]; simp)
theorem reb_own {f : ByteArray → Int} {t : Tm} {p q : Nat} {d : Int} (h : soundB t = true) (hf : Rng f t) (hp : p ≤ 1073741824) (hd : (q : Int) = p + d) : reb d (ownW f t p) = ownW f t q := by
  obtain ⟨k, n, s, l⟩ := t
  obtain ⟨e1, e2, e3⟩ := own_facts (f := f) (p := p) h hf.own hp
  unfold reb
  by_cases hb : boxK k
  · rw [if_pos ((boxd_K e1).2 (by rw [e2]; exact hb)), e2, e3]
    have h2 : k ≠ 2 := (boxK_ne hb).2.1
    rw [if_neg h2, if_pos hb, ownW_mk, if_neg h2, if_pos hb, hd]
  · rw [if_neg (fun h => hb (by have := (boxd_K e1).1 h; rwa [e2] at this)), ownW_mk, ownW_mk, if_neg hb, if_neg hb]
theorem lay_part (f : ByteArray → Int) {l : List Tm} (p : Nat) : ∀ u ∈ l, ∀ q, (lay f u q).length ≤ (layP f l p).2.length := by
  induction l generalizing p with
  | nil => intro u hu; cases hu
  | cons v r ih =>
    intro u hu q
    rw [layP_cons]
    simp only [List.length_append]
    rcases List.mem_cons.1 hu with rfl | hu
    · have h1 := lay_len f u q
      have h2 := lay_len f u p
      omega
    · have := ih (p + (lay f v p).length) u hu q
      omega
theorem reb_lay {f : ByteArray → Int} {d : Int} : ∀ t, sndL (subs t) = true → Rng f t → ∀ p q : Nat, p + (lay f t p).length ≤ 1073741824 → (q : Int) = p + d → (lay f t p).map (reb d) = lay f t q := by
  refine Tm.ind fun t ih hs hf p q hp hq => ?_
  obtain ⟨hsb, hsl⟩ := snd_parts hs
  obtain ⟨k, n, s, l⟩ := t
  simp only [Tm.l_mk] at ih hsl
  rw [lay_mk] at hp ⊢
  rw [lay_mk]
  by_cases hb : boxK k
  · rw [if_pos hb] at hp ⊢
    rw [if_pos hb]
    have h2 : k ≠ 2 := (boxK_ne hb).2.1
    have hgo : ∀ (r : List Tm), (∀ u ∈ r, u ∈ l) → ∀ p q : Nat, p + (layP f r p).2.length ≤ 1073741824 → (q : Int) = p + d → (layP f r p).1.map (reb d) = (layP f r q).1 ∧ (layP f r p).2.map (reb d) = (layP f r q).2 := fun r => by
      induction r with
      | nil => intro _ p q _ _; rw [layP_nil, layP_nil]; exact ⟨rfl, rfl⟩
      | cons u r ihr =>
        intro hm p q hp hq
        rw [layP_cons] at hp ⊢
        rw [layP_cons]
        simp only [List.length_append] at hp
        have hu := hm u (by simp)
        have h1 := reb_own (p := p) (q := q) (d := d) (snd_parts (hsl u hu)).1 (hf.part h2 hu) (by omega) hq
        have h3 := ih u hu (hsl u hu) (hf.part h2 hu) p q (by omega) hq
        have hlen : (lay f u q).length = (lay f u p).length := by
          have := lay_len f u p
          have := lay_len f u q
          omega
        obtain ⟨h4, h5⟩ := ihr (fun v hv => hm v (by simp [hv])) (p + (lay f u p).length) (q + (lay f u q).length) (by omega) (by omega)
        simp only [List.map_cons, List.map_append]
        rw [h1, h3, h4, h5]
        exact ⟨rfl, rfl⟩
    have hl1 := layP_len1 f l (p + (hd k n l.length).length + l.length)
    simp only [List.length_append, hl1] at hp
    obtain ⟨h4, h5⟩ := hgo l (fun u hu => hu) (p + (hd k n l.length).length + l.length) (q + (hd k n l.length).length + l.length) (by omega) (by omega)
    rw [List.map_append, List.map_append, reb_hd, h4, h5]
  · rw [if_neg hb, if_neg hb]; rfl
/-! ### The places that words name -/
def refK (ws : List Int) (q k : Int) : Prop := ∃ w ∈ ws, boxd w = true ∧ unN w = q ∧ unK w = k
theorem refK_nil (q k : Int) : ¬ refK [] q k := fun ⟨w, hw, _⟩ => by cases hw
theorem refK_app (a b : List Int) (q k : Int) : refK (a ++ b) q k ↔ refK a q k ∨ refK b q k := by
  constructor
  · rintro ⟨w, hw, r⟩
    rcases List.mem_append.1 hw with h | h
    · exact .inl ⟨w, h, r⟩
    · exact .inr ⟨w, h, r⟩
  · rintro (⟨w, hw, r⟩ | ⟨w, hw, r⟩)
    · exact ⟨w, List.mem_append.2 (.inl hw), r⟩
    · exact ⟨w, List.mem_append.2 (.inr hw), r⟩
theorem refK_cons (a : Int) (b : List Int) (q k : Int) : refK (a :: b) q k ↔ refK [a] q k ∨ refK b q k := refK_app [a] b q k
theorem refK_hd (k n : Int) (m : Nat) (q k' : Int) : ¬ refK (hd k n m) q k' := fun ⟨w, hw, hb, _⟩ => by rw [hd_box w hw] at hb; cases hb
theorem refK_one (w q k : Int) : refK [w] q k ↔ boxd w = true ∧ unN w = q ∧ unK w = k := by
  constructor
  · rintro ⟨x, hx, r⟩
    simp at hx; subst hx; exact r
  · intro r; exact ⟨w, by simp, r⟩
theorem ref_lay {f : ByteArray → Int} : ∀ t, sndL (subs t) = true → Rng f t → ∀ p : Nat, p + (lay f t p).length ≤ 1073741824 → ∀ q k, refK (ownW f t p :: lay f t p) q k ↔ ∃ x, itAt (its f t p) (q - (p : Int)) = some x ∧ x.k = k := by
  refine Tm.ind fun t ih hs hf p hp q k' => ?_
  obtain ⟨hsb, hsl⟩ := snd_parts hs
  have hok := its_ok f t hs p
  obtain ⟨k, n, s, l⟩ := t
  simp only [Tm.l_mk] at ih hsl
  obtain ⟨e1, e2, e3⟩ := own_facts (f := f) (p := p) hsb hf.own (by omega)
  rw [refK_cons, refK_one]
  rw [lay_mk] at hp ⊢
  rw [its_mk] at hok ⊢
  by_cases hb : boxK k
  · have h2 : k ≠ 2 := (boxK_ne hb).2.1
    rw [if_pos hb] at hp hok ⊢
    rw [if_pos hb]
    rw [if_neg h2, if_pos hb] at e3
    have hgo : ∀ (r : List Tm), (∀ u ∈ r, u ∈ l) → ∀ p : Nat, p + (layP f r p).2.length ≤ 1073741824 → ∀ q k, refK ((layP f r p).1 ++ (layP f r p).2) q k ↔ ∃ x, itAt (itsL f r p) (q - (p : Int)) = some x ∧ x.k = k := fun r => by
      induction r with
      | nil =>
        intro _ p _ q k
        rw [layP_nil, itsL_nil]
        constructor
        · intro h; exact absurd h (refK_nil q k)
        · rintro ⟨x, hx, _⟩; cases hx
      | cons u r ihr =>
        intro hm p hp q k
        rw [layP_cons] at hp ⊢
        rw [itsL_cons]
        simp only [List.length_append] at hp
        have hu := hm u (by simp)
        have h1 := ih u hu (hsl u hu) (hf.part h2 hu) p (by omega) q k
        have h3 := ihr (fun v hv => hm v (by simp [hv])) (p + (lay f u p).length) (by omega) q k
        have hor := itAt_or (Pos.of_ok (its_ok f u (hsl u hu) p)) (b := itsL f r (p + (lay f u p).length)) (fun y hy => by
          have : ∀ (r : List Tm), (∀ u ∈ r, u ∈ l) → ∀ p, ∀ x ∈ itsL f r p, ItOk x := fun r => by
            induction r with
            | nil => intro _ p x hx; rw [itsL_nil] at hx; cases hx
            | cons u r ihr =>
              intro hm p x hx
              rw [itsL_cons, List.mem_append] at hx
              rcases hx with hx | hx
              · exact its_ok f u (hsl u (hm u (by simp))) p x hx
              · exact ihr (fun v hv => hm v (by simp [hv])) _ x hx
          exact (this r (fun v hv => hm v (by simp [hv])) _ y hy).pos) (q - (p : Int))
        rw [its_hW] at hor
        simp only
        rw [refK_cons] at h1
        rw [List.cons_append, refK_cons, refK_app, refK_app]
        rw [refK_app] at h3
        constructor
        · rintro (h | h | h | h)
          · obtain ⟨x, hx, hk⟩ := h1.1 (.inl h); exact ⟨x, (hor x).2 (.inl hx), hk⟩
          · obtain ⟨x, hx, hk⟩ := h3.1 (.inl h); exact ⟨x, (hor x).2 (.inr (by rw [show q - (p : Int) - ((lay f u p).length : Int) = q - ((p + (lay f u p).length : Nat) : Int) by omega]; exact hx)), hk⟩
          · obtain ⟨x, hx, hk⟩ := h1.1 (.inr h); exact ⟨x, (hor x).2 (.inl hx), hk⟩
          · obtain ⟨x, hx, hk⟩ := h3.1 (.inr h); exact ⟨x, (hor x).2 (.inr (by rw [show q - (p : Int) - ((lay f u p).length : Int) = q - ((p + (lay f u p).length : Nat) : Int) by omega]; exact hx)), hk⟩
        · rintro ⟨x, hx, hk⟩
          rcases (hor x).1 hx with h | h
          · rcases h1.2 ⟨x, h, hk⟩ with h | h
            · exact .inl h
            · exact .inr (.inr (.inl h))
          · rw [show q - (p : Int) - ((lay f u p).length : Int) = q - ((p + (lay f u p).length : Nat) : Int) by omega] at h
            rcases h3.2 ⟨x, h, hk⟩ with h | h
            · exact .inr (.inl h)
            · exact .inr (.inr (.inr h))
    have hl1 := layP_len1 f l (p + (hd k n l.length).length + l.length)
    simp only [List.length_append, hl1] at hp
    have hg := hgo l (fun u hu => hu) (p + (hd k n l.length).length + l.length) (by omega) q k'
    rw [refK_app, e2, e3, hg]
    have hw0 : ((itW ⟨k, n, (layP f l (p + (hd k n l.length).length + l.length)).1⟩).length : Int) = (hd k n l.length).length + l.length := by
      unfold itW; simp only [List.length_append, hl1]; omega
    simp only [itAt]
    rw [hw0, show q - (p : Int) - (((hd k n l.length).length : Int) + (l.length : Int)) = q - ((p + (hd k n l.length).length + l.length : Nat) : Int) by omega]
    have hpos := (hok _ (List.mem_cons_self ..)).pos
    have hposi : 0 < ((hd k n l.length).length : Int) + l.length := by omega
    constructor
    · rintro (⟨_, h1, h3⟩ | h | ⟨x, hx, hk⟩)
      · exact ⟨_, by rw [if_pos (by omega)], h3⟩
      · exact absurd h (refK_hd _ _ _ _ _)
      · have := (itAt_seg hx).1
        exact ⟨x, by rw [if_neg (by omega)]; exact hx, hk⟩
    · rintro ⟨x, hx, hk⟩
      split at hx
      · rename_i h0
        injection hx with hx
        subst hx
        exact .inl ⟨(boxd_K e1).2 (by rw [e2]; exact hb), by omega, hk⟩
      · exact .inr (.inr ⟨x, hx, hk⟩)
  · rw [if_neg hb, if_neg hb]
    constructor
    · rintro (⟨h, _, _⟩ | h)
      · exact absurd ((boxd_K e1).1 h) (by rw [e2]; exact hb)
      · exact absurd h (refK_nil q k')
    · rintro ⟨x, hx, _⟩; cases hx
/-! ### What 'is' says behind it -/
def upW (m : Int → Int) (w : Int) : Int → Int := if boxd w = true then (fun q => if q = unN w then unK w else m q) else m
def ups (m : Int → Int) (ws : List Int) : Int → Int := ws.foldl upW m
theorem ups_snoc (m : Int → Int) (ws : List Int) (w : Int) : ups m (ws ++ [w]) = upW (ups m ws) w := by unfold ups; rw [List.foldl_append]; rfl
theorem ups_spec (m : Int → Int) (ws : List Int) (q : Int) : (∃ k, refK ws q k ∧ ups m ws q = k) ∨ ((∀ k, ¬ refK ws q k) ∧ ups m ws q = m q) := by
  obtain ⟨vs, rfl⟩ : ∃ vs : List Int, ws = vs.reverse := ⟨ws.reverse, by simp⟩
  induction vs with
  | nil => exact .inr ⟨fun k => refK_nil q k, rfl⟩
  | cons w vs ih =>
    rw [List.reverse_cons]
    generalize vs.reverse = ws at ih ⊢
    rw [ups_snoc]
    unfold upW
    by_cases hb : boxd w = true
    · rw [if_pos hb]
      by_cases hq : q = unN w
      · left
        exact ⟨unK w, (refK_app _ _ _ _).2 (.inr ((refK_one _ _ _).2 ⟨hb, hq.symm, rfl⟩)), by rw [if_pos hq]⟩
      · rw [if_neg hq]
        rcases ih with ⟨k, h1, h2⟩ | ⟨h1, h2⟩
        · exact .inl ⟨k, (refK_app _ _ _ _).2 (.inl h1), h2⟩
        · refine .inr ⟨fun k h => ?_, h2⟩
          rcases (refK_app _ _ _ _).1 h with h | h
          · exact h1 k h
          · exact hq ((refK_one _ _ _).1 h).2.1.symm
    · rw [if_neg hb]
      rcases ih with ⟨k, h1, h2⟩ | ⟨h1, h2⟩
      · exact .inl ⟨k, (refK_app _ _ _ _).2 (.inl h1), h2⟩
      · refine .inr ⟨fun k h => ?_, h2⟩
        rcases (refK_app _ _ _ _).1 h with h | h
        · exact h1 k h
        · exact hb ((refK_one _ _ _).1 h).1
/-- Behind Put, 'is' says which kind begins where. -/
theorem ups_put {f : ByteArray → Int} {H : List It} (hH : Pos H) {t : Tm} (hs : sndL (subs t) = true) (hf : Rng f t) {p : Nat} (hp : p = (hW H).length) (hb : p + (lay f t p).length ≤ 1073741824) :
    ups (kindAt H) (ownW f t p :: lay f t p) = kindAt (H ++ its f t p) := by
  funext q
  have hr := ref_lay t hs hf p hb q
  have hG := Pos.of_ok (its_ok f t hs p)
  rcases ups_spec (kindAt H) (ownW f t p :: lay f t p) q with ⟨k, h1, h2⟩ | ⟨h1, h2⟩
  · obtain ⟨x, hx, hk⟩ := (hr k).1 h1
    rw [h2, kindAt_some ((itAt_or hH hG q x).2 (.inr (by rw [← hp]; exact hx))), hk]
  · rw [h2]
    unfold kindAt
    rw [itAt_append]
    cases h3 : itAt H q with
    | some y => rfl
    | none =>
      simp only
      cases h4 : itAt (its f t p) (q - ((hW H).length : Int)) with
      | none => rfl
      | some y => exact absurd ((hr y.k).2 ⟨y, by rw [hp]; rw [← hp] at h4; rw [← hp]; exact h4, rfl⟩) (h1 _)
end Go.Proofs.Ytnedjmjcbmoknaa.Hp
