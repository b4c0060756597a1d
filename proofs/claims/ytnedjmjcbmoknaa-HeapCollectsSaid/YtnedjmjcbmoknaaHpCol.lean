/- Plain: what Collect leaves. No program in sight. Plain: the order in which Collect moves; a second collection changes nothing. No program in sight. -/
import Derived.Test.YtnedjmjcbmoknaaHpSpec
namespace Go.Proofs.Ytnedjmjcbmoknaa.Hp
open Go.RowKit K Wd At Fl
set_option linter.unusedVariables false
set_option linter.unusedSimpArgs false
/-! ### Lists -/
theorem sum_sub {α : Type} (f : α → Nat) : ∀ (l m : List α), l.Nodup → (∀ a ∈ l, a ∈ m) → (l.map f).sum ≤ (m.map f).sum := by
  intro l
  induction l with
  | nil => intro m _ _; simp
  | cons a l ih =>
    intro m hn hs
    obtain ⟨hna, hnl⟩ := List.nodup_cons.1 hn
    obtain ⟨m1, m2, rfl⟩ := List.append_of_mem (hs a (by simp))
    have h1 := ih (m1 ++ m2) hnl (fun b hb => by
      have := hs b (by simp [hb])
      rcases List.mem_append.1 this with h | h
      · exact List.mem_append.2 (.inl h)
      · rcases List.mem_cons.1 h with h | h
        · subst h; exact absurd hb hna
        · exact List.mem_append.2 (.inr h))
    simp only [List.map_append, List.map_cons, List.sum_append, List.sum_cons] at h1 ⊢
    omega
/-- The first m of a list turned. -/
def turn (f : Int → Int) (l : List Int) (m : Nat) : List Int := (l.take m).map f ++ l.drop m
theorem turn_zero (f : Int → Int) (l : List Int) : turn f l 0 = l := by simp [turn]
theorem turn_all (f : Int → Int) (l : List Int) : turn f l l.length = l.map f := by simp [turn]
theorem turn_len (f : Int → Int) (l : List Int) (m : Nat) : (turn f l m).length = l.length := by
  unfold turn; rw [List.length_append, List.length_map, ← List.length_append, List.take_append_drop]
theorem turn_ge {f : Int → Int} {l : List Int} {m i : Nat} (h : m ≤ i) : (turn f l m)[i]? = l[i]? := by
  unfold turn
  by_cases hm : m ≤ l.length
  · rw [List.getElem?_append_right (by simp; omega)]
    simp only [List.length_map, List.length_take]
    rw [Nat.min_eq_left hm, List.getElem?_drop]
    congr 1
    omega
  · rw [List.getElem?_eq_none (l := l) (by omega), List.getElem?_eq_none]
    rw [List.length_append, List.length_map, ← List.length_append, List.take_append_drop]
    omega
theorem turn_lt {f : Int → Int} {l : List Int} {m i : Nat} (h : i < m) (hl : i < l.length) : (turn f l m)[i]? = (l[i]?).map f := by
  unfold turn
  rw [List.getElem?_append_left (by simp; omega), List.getElem?_map, List.getElem?_take, if_pos h]
theorem turn_succ {f : Int → Int} {l : List Int} {m : Nat} {u : Int} (h : l[m]? = some u) : turn f l (m + 1) = (turn f l m).set m (f u) := by
  have hl := (List.getElem?_eq_some_iff.1 h).1
  apply List.ext_getElem?
  intro i
  rw [List.getElem?_set]
  by_cases e : m = i
  · subst e
    rw [if_pos rfl, turn_lt (by omega) hl, h, if_pos (by rw [turn_len]; exact hl)]
    rfl
  · rw [if_neg e]
    by_cases h1 : i < m
    · rw [turn_lt (by omega) (by omega), turn_lt h1 (by omega)]
    · rw [turn_ge (by omega), turn_ge (by omega)]
theorem turn_same {f : Int → Int} {l : List Int} {m : Nat} {u : Int} (h : l[m]? = some u) (hf : f u = u) : turn f l (m + 1) = turn f l m := by
  have hl := (List.getElem?_eq_some_iff.1 h).1
  rw [turn_succ h, hf]
  apply List.ext_getElem?
  intro i
  rw [List.getElem?_set]
  split
  · rename_i e; subst e
    rw [turn_len, if_pos hl, turn_ge (Nat.le_refl _), h]
  · rfl
theorem turn_app {f g : Int → Int} {l x : List Int} {m : Nat} (hm : m ≤ l.length) (h : ∀ u ∈ l.take m, g u = f u) : turn g (l ++ x) m = turn f l m ++ x := by
  unfold turn
  rw [List.take_append_of_le_length hm, List.drop_append_of_le_length hm, List.append_assoc, List.map_congr_left h]
theorem turn_congr {f g : Int → Int} {l : List Int} {m : Nat} (h : ∀ u ∈ l.take m, g u = f u) : turn g l m = turn f l m := by
  unfold turn; rw [List.map_congr_left h]
/-! ### Items by their places -/
def itm (H : List It) (p : Int) : It := (itAt H p).getD default
theorem itm_some {H : List It} {p : Int} {x : It} (h : itAt H p = some x) : itm H p = x := by unfold itm; rw [h]; rfl
def raw (H : List It) (ps : List Int) : List It := ps.map (itm H)
def lenI (H : List It) (p : Int) : Nat := (itW (itm H p)).length
def off (H : List It) : List Int → Int → Nat
  | [], _ => 0
  | p :: r, q => if p = q then 0 else lenI H p + off H r q
def tot (H : List It) (ps : List Int) : Nat := (hW (raw H ps)).length
theorem tot_nil (H : List It) : tot H [] = 0 := rfl
theorem tot_cons (H : List It) (p : Int) (r : List Int) : tot H (p :: r) = lenI H p + tot H r := by
  unfold tot raw lenI; simp [hW]
theorem tot_app (H : List It) (a b : List Int) : tot H (a ++ b) = tot H a + tot H b := by
  unfold tot raw; rw [List.map_append, hW_append, List.length_append]
theorem tot_one (H : List It) (p : Int) : tot H [p] = lenI H p := by rw [tot_cons, tot_nil]; rfl
theorem tot_sum (H : List It) (ps : List Int) : tot H ps = (ps.map (lenI H)).sum := by
  induction ps with
  | nil => rfl
  | cons p r ih => rw [tot_cons, ih]; rfl
structure Ps (H : List It) (ps : List Int) : Prop where
  nd : ps.Nodup
  at_ : ∀ p ∈ ps, ∃ x, itAt H p = some x
theorem Ps.nil (H : List It) : Ps H [] := ⟨List.nodup_nil, fun p h => by cases h⟩
theorem Ps.itAt {H : List It} {ps : List Int} (h : Ps H ps) {p : Int} (hp : p ∈ ps) : itAt H p = some (itm H p) := by
  obtain ⟨x, hx⟩ := h.at_ p hp
  rw [hx, itm_some hx]
theorem off_mem {H : List It} {ps : List Int} (r : List Int) {q : Int} (h : q ∈ ps) : off H (ps ++ r) q = off H ps q := by
  induction ps with
  | nil => cases h
  | cons p ps ih =>
    simp only [List.cons_append, off]
    split
    · rfl
    · rename_i hne
      rw [ih (by rcases List.mem_cons.1 h with e | h; exact absurd e.symm hne; exact h)]
theorem off_out {H : List It} {ps : List Int} {q : Int} (h : q ∉ ps) (r : List Int) : off H (ps ++ r) q = tot H ps + off H r q := by
  induction ps with
  | nil => simp [tot_nil]
  | cons p ps ih =>
    simp only [List.cons_append, off]
    rw [if_neg (fun e => h (by simp [e])), ih (fun e => h (by simp [e])), tot_cons]
    omega
theorem off_new {H : List It} {ps : List Int} {q : Int} (h : q ∉ ps) : off H (ps ++ [q]) q = tot H ps := by
  rw [off_out h]; simp [off]
theorem off_lt {H : List It} {ps : List Int} {q : Int} (h : q ∈ ps) : off H ps q + lenI H q ≤ tot H ps := by
  induction ps with
  | nil => cases h
  | cons p ps ih =>
    simp only [off]
    rw [tot_cons]
    split
    · rename_i e; subst e; omega
    · rename_i hne
      have := ih (by rcases List.mem_cons.1 h with e | h; exact absurd e.symm hne; exact h)
      omega
/-- A place by its index. -/
theorem off_get {H : List It} {ps : List Int} (hn : ps.Nodup) {k : Nat} {p : Int} (h : ps[k]? = some p) : off H ps p = tot H (ps.take k) := by
  have hk := (List.getElem?_eq_some_iff.1 h).1
  have e : ps = ps.take k ++ ps.drop k := (List.take_append_drop k ps).symm
  have hd : ps.drop k = p :: ps.drop (k + 1) := by
    rw [List.drop_eq_getElem_cons hk]
    have := List.getElem?_eq_getElem hk
    rw [h] at this
    injection this with this
    rw [this]
  have hnot : p ∉ ps.take k := by
    rw [e, hd] at hn
    intro hm
    exact (List.nodup_append.1 hn).2.2 p hm p (by simp) rfl
  calc off H ps p = off H (ps.take k ++ ps.drop k) p := by rw [← e]
    _ = tot H (ps.take k) + off H (ps.drop k) p := off_out hnot _
    _ = tot H (ps.take k) := by rw [hd]; simp [off]
theorem off_inj {H : List It} (hp : ∀ p ∈ ([] : List Int), True) {ps : List Int} (hl : ∀ p ∈ ps, 0 < lenI H p) {a b : Int} (ha : a ∈ ps) (hb : b ∈ ps) (h : off H ps a = off H ps b) : a = b := by
  induction ps with
  | nil => cases ha
  | cons p ps ih =>
    simp only [off] at h
    have h0 := hl p (by simp)
    by_cases e1 : p = a
    · by_cases e2 : p = b
      · rw [← e1, ← e2]
      · rw [if_pos e1, if_neg e2] at h; omega
    · by_cases e2 : p = b
      · rw [if_neg e1, if_pos e2] at h; omega
      · rw [if_neg e1, if_neg e2] at h
        exact ih (fun q hq => hl q (by simp [hq])) (by rcases List.mem_cons.1 ha with e | h; exact absurd e.symm e1; exact h) (by rcases List.mem_cons.1 hb with e | h; exact absurd e.symm e2; exact h) (by omega)
theorem itm_pos {H : List It} (hp : Pos H) {p : Int} {x : It} (h : itAt H p = some x) : 0 < lenI H p := by
  unfold lenI; rw [itm_some h]; exact hp x (itAt_mem h)
theorem Ps.pos {H : List It} (hp : Pos H) {ps : List Int} (h : Ps H ps) : ∀ p ∈ ps, 0 < lenI H p := fun p hm => by
  obtain ⟨x, hx⟩ := h.at_ p hm
  exact itm_pos hp hx
theorem raw_pos {H : List It} (hp : Pos H) {ps : List Int} (h : Ps H ps) : Pos (raw H ps) := fun x hx => by
  obtain ⟨p, hm, rfl⟩ := List.mem_map.1 hx
  exact h.pos hp p hm
theorem itAt_raw {H : List It} (hp : Pos H) {ps : List Int} (h : Ps H ps) {q : Int} (hq : q ∈ ps) : itAt (raw H ps) (off H ps q : Int) = some (itm H q) := by
  have hl := h.pos hp
  clear h
  induction ps with
  | nil => cases hq
  | cons p ps ih =>
    have h0 := hl p (by simp)
    show itAt (itm H p :: raw H ps) _ = _
    by_cases e : p = q
    · rw [show off H (p :: ps) q = 0 by simp [off, e], e]; rfl
    · rw [show off H (p :: ps) q = lenI H p + off H ps q by simp [off, e]]
      simp only [itAt]
      rw [if_neg (by omega)]
      have := ih (by rcases List.mem_cons.1 hq with e' | h; exact absurd e'.symm e; exact h) (fun q hq => hl q (by simp [hq]))
      rw [← this]
      congr 1
      show ((lenI H p + off H ps q : Nat) : Int) - (lenI H p : Int) = _
      omega
/-- All places of a heap, with what lies there. -/
def placed : List It → Int → List (Int × It)
  | [], _ => []
  | x :: r, b => (b, x) :: placed r (b + (itW x).length)
theorem placed_sum (H : List It) : ∀ b, ((placed H b).map fun y => (itW y.2).length).sum = (hW H).length := by
  induction H with
  | nil => intro b; rfl
  | cons x r ih => intro b; simp only [placed, List.map_cons, List.sum_cons, ih, hW, List.length_append]
theorem placed_of {H : List It} : ∀ {b p : Int} {x : It}, itAt H (p - b) = some x → (p, x) ∈ placed H b := by
  induction H with
  | nil => intro b p x h; cases h
  | cons y r ih =>
    intro b p x h
    simp only [itAt] at h
    simp only [placed]
    split at h
    · rename_i e
      injection h with h
      subst h
      rw [show p = b by omega]
      exact List.mem_cons_self ..
    · exact List.mem_cons_of_mem _ (ih (b := b + ((itW y).length : Int)) (by rw [show p - (b + ((itW y).length : Int)) = p - b - ((itW y).length : Int) by omega]; exact h))
theorem tot_le {H : List It} {ps : List Int} (h : Ps H ps) : tot H ps ≤ (hW H).length := by
  have h1 := sum_sub (fun y : Int × It => (itW y.2).length) (ps.map fun p => (p, itm H p)) (placed H 0) (by
    rw [List.nodup_iff_pairwise_ne, List.pairwise_map]
    exact h.nd.imp (fun hne e => hne (congrArg Prod.fst e))) (fun y hy => by
    obtain ⟨p, hp, rfl⟩ := List.mem_map.1 hy
    exact placed_of (by rw [Int.sub_zero]; exact h.itAt hp))
  rw [placed_sum, List.map_map] at h1
  rw [tot_sum]
  exact h1
theorem len_le_tot {H : List It} (hp : Pos H) {ps : List Int} (h : Ps H ps) : ps.length ≤ tot H ps := by
  have hl := h.pos hp
  clear h
  induction ps with
  | nil => exact Nat.zero_le _
  | cons p r ih =>
    have := ih (fun q hq => hl q (by simp [hq]))
    have := hl p (by simp)
    rw [tot_cons]
    simp only [List.length_cons]
    omega
/-! ### Words moved -/
def reloc (H : List It) (ps : List Int) (w : Int) : Int := if boxd w = true then packW (unK w) (off H ps (unN w) : Int) else w
theorem reloc_no {H : List It} {ps : List Int} {w : Int} (h : boxd w = false) : reloc H ps w = w := by unfold reloc; rw [h]; rfl
theorem reloc_app {H : List It} {ps r : List Int} {w : Int} (h : boxd w = true → unN w ∈ ps) : reloc H (ps ++ r) w = reloc H ps w := by
  unfold reloc
  split
  · rename_i hb; rw [off_mem r (h hb)]
  · rfl
theorem reloc_box {H : List It} {ps : List Int} {w : Int} (he : unE w = 0) (hb : boxd w = true) (ht : off H ps (unN w) ≤ 16777216) :
    reloc H ps w = packW (unK w) (off H ps (unN w) : Int) ∧ unE (reloc H ps w) = 0 ∧ unK (reloc H ps w) = unK w ∧ unN (reloc H ps w) = (off H ps (unN w) : Int) ∧ boxd (reloc H ps w) = true := by
  have h1 : reloc H ps w = packW (unK w) (off H ps (unN w) : Int) := by unfold reloc; rw [if_pos hb]
  have hk := (boxd_K he).1 hb
  have hk2 := hk
  unfold boxK at hk2
  obtain ⟨q1, q2⟩ := high_num (k := unK w) (by omega)
  obtain ⟨e1, e2, e3⟩ := pack_facts (k := unK w) (n := (off H ps (unN w) : Int)) (by omega) ⟨by rw [q1]; omega, by rw [q2]; omega, fun e => by omega⟩
  rw [h1]
  exact ⟨rfl, e1, e2, e3, (boxd_K e1).2 (by rw [e2]; exact hk)⟩
theorem un_inj {u v : Int} (hu : U64 u) (hv : U64 v) (h1 : unE u = 0) (h2 : unE v = 0) (hk : unK u = unK v) (hn : unN u = unN v) : u = v := by
  obtain ⟨a1, a2, _⟩ := un_facts h1
  obtain ⟨b1, b2, _⟩ := un_facts h2
  rw [a1, b1] at hk
  rw [a2, b2] at hn
  unfold wordN at hn
  unfold U64 at hu hv
  split at hn <;> split at hn <;> omega
theorem reloc_u64 {H : List It} {ps : List Int} {w : Int} (h : U64 w) : U64 (reloc H ps w) := by
  unfold reloc
  split
  · exact packW_range _ _
  · exact h
def rel (H : List It) (ps : List Int) (x : It) : It := ⟨x.k, x.n, x.ws.map (reloc H ps)⟩
theorem rel_W (H : List It) (ps : List Int) (x : It) : itW (rel H ps x) = (itW x).map (reloc H ps) := by
  unfold itW rel
  simp only [List.map_append, List.length_map]
  congr 1
  exact ((List.map_congr_left (g := id) (fun w hw => reloc_no (H := H) (ps := ps) (hd_box w hw))).trans (List.map_id _)).symm
def R (H : List It) (ps : List Int) : List Int := hW (raw H ps)
theorem R_app (H : List It) (ps : List Int) (p : Int) : R H (ps ++ [p]) = R H ps ++ itW (itm H p) := by
  unfold R raw; rw [List.map_append, hW_append]; simp [hW]
theorem R_len (H : List It) (ps : List Int) : (R H ps).length = tot H ps := rfl
def col (H : List It) (ps : List Int) : List It := (raw H ps).map (rel H ps)
theorem hW_rel (H : List It) (ps : List Int) (G : List It) : hW (G.map (rel H ps)) = (hW G).map (reloc H ps) := by
  induction G with
  | nil => rfl
  | cons x r ih => simp only [List.map_cons, hW, rel_W, ih, List.map_append]
theorem hW_col (H : List It) (ps : List Int) : hW (col H ps) = (R H ps).map (reloc H ps) := hW_rel H ps _
theorem itAt_rel (H : List It) (ps : List Int) (G : List It) : ∀ q, itAt (G.map (rel H ps)) q = (itAt G q).map (rel H ps) := by
  induction G with
  | nil => intro q; rfl
  | cons x r ih =>
    intro q
    simp only [List.map_cons, itAt, rel_W, List.length_map]
    split
    · rfl
    · exact ih _
theorem kindAt_rel (H : List It) (ps : List Int) (G : List It) (q : Int) : kindAt (G.map (rel H ps)) q = kindAt G q := by
  unfold kindAt
  rw [itAt_rel]
  cases itAt G q <;> rfl
theorem itAt_col {H : List It} (hp : Pos H) {ps : List Int} (h : Ps H ps) {q : Int} (hq : q ∈ ps) : itAt (col H ps) (off H ps q : Int) = some (rel H ps (itm H q)) := by
  unfold col
  rw [itAt_rel, itAt_raw hp h hq]; rfl
/-- A word may be moved: it may be, and what it names is there. -/
def Mv (H : List It) (a : Nat) (ps : List Int) (u : Int) : Prop := U64 u ∧ may H a u = true ∧ (boxd u = true → unN u ∈ ps)
/-- What parts of the moved name is moved too. -/
def Cl (H : List It) (ps : List Int) : Prop := ∀ p ∈ ps, ∀ u ∈ (itm H p).ws, boxd u = true → unN u ∈ ps
section
variable {H : List It} {a : Nat} {ps : List Int} {u v : Int}
theorem Ps.off_le (h : Ps H ps) (hl : (hW H).length ≤ 16777216) {p : Int} (hp : p ∈ ps) : off H ps p ≤ 16777216 := by
  have := off_lt (H := H) hp
  have := tot_le h
  omega
theorem Mv.box (h : Mv H a ps u) (hs : Ps H ps) (hl : (hW H).length ≤ 16777216) (hb : boxd u = true) :
    reloc H ps u = packW (unK u) (off H ps (unN u) : Int) ∧ unE (reloc H ps u) = 0 ∧ unK (reloc H ps u) = unK u ∧ unN (reloc H ps u) = (off H ps (unN u) : Int) ∧ boxd (reloc H ps u) = true :=
  reloc_box (may_E h.2.1) hb (hs.off_le hl (h.2.2 hb))
theorem Mv.may_ (hp : Pos H) (h : Mv H a ps u) (hs : Ps H ps) (hl : (hW H).length ≤ 16777216) : may (col H ps) a (reloc H ps u) = true := by
  by_cases hb : boxd u = true
  · obtain ⟨_, e1, e2, e3, e4⟩ := h.box hs hl hb
    obtain ⟨x, hx, hk⟩ := may_box h.2.1 hb
    unfold may
    rw [if_pos e1, if_pos e4, e3, e2, kindAt_some (itAt_col hp hs (h.2.2 hb)), itm_some hx]
    exact decide_eq_true hk
  · have hf : boxd u = false := by simpa using hb
    rw [reloc_no hf]
    have hm := h.2.1
    unfold may at hm ⊢
    rw [hf] at hm ⊢
    exact hm
theorem Mv.inj (hp : Pos H) (h : Mv H a ps u) (h' : Mv H a ps v) (hs : Ps H ps) (hl : (hW H).length ≤ 16777216) (e : reloc H ps u = reloc H ps v) : u = v := by
  by_cases hb : boxd u = true
  · obtain ⟨_, e1, e2, e3, e4⟩ := h.box hs hl hb
    by_cases hb' : boxd v = true
    · obtain ⟨_, f1, f2, f3, f4⟩ := h'.box hs hl hb'
      rw [e] at e2 e3
      have := off_inj (H := H) (fun _ _ => trivial) (hs.pos hp) (h.2.2 hb) (h'.2.2 hb') (by omega)
      exact un_inj h.1 h'.1 (may_E h.2.1) (may_E h'.2.1) (by rw [← e2, f2]) this
    · have hf : boxd v = false := by simpa using hb'
      rw [reloc_no hf] at e
      rw [e] at e4
      exact absurd e4 hb'
  · have hf : boxd u = false := by simpa using hb
    by_cases hb' : boxd v = true
    · obtain ⟨_, f1, f2, f3, f4⟩ := h'.box hs hl hb'
      rw [reloc_no hf] at e
      rw [← e] at f4
      exact absurd f4 hb
    · have hf' : boxd v = false := by simpa using hb'
      rwa [reloc_no hf, reloc_no hf'] at e
theorem Rep.moved {L : List ByteArray} (hp : Pos H) (hs : Ps H ps) (hc : Cl H ps) (hl : (hW H).length ≤ 16777216) {t : Tm} {u : Int} (h : Rep H L t u) : (boxd u = true → unN u ∈ ps) → Rep (col H ps) L t (reloc H ps u) := by
  induction h with
  | leaf k n w hk hu he h1 h2 =>
    intro _
    rw [reloc_no (by cases hb : boxd w with
      | false => rfl
      | true => have := (boxd_K he).1 hb; rw [h1] at this; unfold boxK at this; unfold leafK at hk; omega)]
    exact .leaf k n w hk hu he h1 h2
  | atom s w i hu he h1 h2 hs' =>
    intro _
    rw [reloc_no (by cases hb : boxd w with
      | false => rfl
      | true => have := (boxd_K he).1 hb; rw [h1] at this; unfold boxK at this; omega)]
    exact .atom s w i hu he h1 h2 hs'
  | box x l w hu he hb h1 hx hl' hpp ih =>
    intro hm
    have hbw : boxd w = true := (boxd_K he).2 (by rw [h1]; exact hb)
    have hmem := hm hbw
    obtain ⟨_, e1, e2, e3, e4⟩ := reloc_box (ps := ps) he hbw (hs.off_le hl hmem)
    have hat := itAt_col hp hs hmem
    rw [itm_some hx] at hat
    refine Rep.box (rel H ps x) l _ (reloc_u64 hu) e1 hb (by rw [e2]; exact h1) (by rw [e3]; exact hat) (by unfold rel; simp [hl']) ?_
    intro i t v ht hv
    unfold rel at hv
    simp only [List.getElem?_map] at hv
    cases hxi : x.ws[i]? with
    | none => rw [hxi] at hv; cases hv
    | some v0 =>
      rw [hxi] at hv
      injection hv with hv
      subst hv
      exact ih i t v0 ht hxi (fun hb0 => hc _ hmem v0 (by rw [itm_some hx]; exact List.mem_of_getElem? hxi) hb0)
theorem col_wf (hw : Wf H a) (hs : Ps H ps) (hc : Cl H ps) (hl : (hW H).length ≤ 16777216) : Wf (col H ps) a := by
  refine ⟨fun x hx => ?_, fun x hx u hu => ?_⟩
  · obtain ⟨y, hy, rfl⟩ := List.mem_map.1 hx
    obtain ⟨p, hp, rfl⟩ := List.mem_map.1 hy
    have := hw.ok _ (itAt_mem (hs.itAt hp))
    exact ⟨this.box, fun e => ⟨(this.cons e).1, by unfold rel; simp [(this.cons e).2]⟩, this.tup, this.fn, by unfold rel; simp [this.len]⟩
  · obtain ⟨y, hy, rfl⟩ := List.mem_map.1 hx
    obtain ⟨p, hp, rfl⟩ := List.mem_map.1 hy
    obtain ⟨v, hv, rfl⟩ := List.mem_map.1 hu
    obtain ⟨h1, h2⟩ := hw.words _ (itAt_mem (hs.itAt hp)) v hv
    exact ⟨reloc_u64 h1, Mv.may_ hw.pos ⟨h1, h2, hc p hp v hv⟩ hs hl⟩
theorem col_len (H : List It) (ps : List Int) : (hW (col H ps)).length = tot H ps := by rw [hW_col, List.length_map]; rfl
end
def add (ps : List Int) (w : Int) : List Int := if boxd w = true ∧ unN w ∉ ps then ps ++ [unN w] else ps
def addAll (ps : List Int) (ws : List Int) : List Int := ws.foldl add ps
theorem addAll_nil (ps : List Int) : addAll ps [] = ps := rfl
theorem addAll_cons (ps : List Int) (w : Int) (r : List Int) : addAll ps (w :: r) = addAll (add ps w) r := rfl
theorem addAll_snoc (ps : List Int) (ws : List Int) (w : Int) : addAll ps (ws ++ [w]) = add (addAll ps ws) w := by unfold addAll; rw [List.foldl_append]; rfl
theorem add_ext (ps : List Int) (w : Int) : ∃ x, add ps w = ps ++ x := by
  unfold add
  split
  · exact ⟨_, rfl⟩
  · exact ⟨[], by simp⟩
theorem addAll_ext (ws : List Int) : ∀ ps, ∃ x, addAll ps ws = ps ++ x := by
  induction ws with
  | nil => intro ps; exact ⟨[], by simp [addAll]⟩
  | cons w r ih =>
    intro ps
    obtain ⟨x, hx⟩ := add_ext ps w
    obtain ⟨y, hy⟩ := ih (add ps w)
    exact ⟨x ++ y, by rw [addAll_cons, hy, hx, List.append_assoc]⟩
theorem add_mem {ps : List Int} {w : Int} (hb : boxd w = true) : unN w ∈ add ps w := by
  unfold add
  by_cases h : unN w ∈ ps
  · rw [if_neg (fun h' => h'.2 h)]; exact h
  · rw [if_pos ⟨hb, h⟩]; simp
theorem add_sub {ps : List Int} {w q : Int} (h : q ∈ ps) : q ∈ add ps w := by
  obtain ⟨x, hx⟩ := add_ext ps w
  rw [hx]; exact List.mem_append.2 (.inl h)
theorem addAll_sub {ps ws : List Int} {q : Int} (h : q ∈ ps) : q ∈ addAll ps ws := by
  obtain ⟨x, hx⟩ := addAll_ext ws ps
  rw [hx]; exact List.mem_append.2 (.inl h)
theorem addAll_mem {ws : List Int} : ∀ {ps : List Int} {w : Int}, w ∈ ws → boxd w = true → unN w ∈ addAll ps ws := by
  induction ws with
  | nil => intro ps w h; cases h
  | cons u r ih =>
    intro ps w h hb
    rw [addAll_cons]
    rcases List.mem_cons.1 h with rfl | h
    · exact addAll_sub (add_mem hb)
    · exact ih h hb
theorem add_in {S ps : List Int} {w : Int} (hs : ∀ p ∈ ps, p ∈ S) (hw : boxd w = true → unN w ∈ S) : ∀ p ∈ add ps w, p ∈ S := by
  unfold add
  split
  · rename_i h
    intro p hp
    rcases List.mem_append.1 hp with h1 | h1
    · exact hs p h1
    · simp at h1; subst h1; exact hw h.1
  · exact hs
theorem addAll_in {S ws : List Int} : ∀ {ps : List Int}, (∀ p ∈ ps, p ∈ S) → (∀ w ∈ ws, boxd w = true → unN w ∈ S) → ∀ p ∈ addAll ps ws, p ∈ S := by
  induction ws with
  | nil => intro ps hs _; exact hs
  | cons w r ih =>
    intro ps hs hw
    rw [addAll_cons]
    exact ih (add_in hs (hw w (by simp))) (fun u hu => hw u (by simp [hu]))
theorem add_ps {H : List It} {a : Nat} {ps : List Int} {w : Int} (h : Ps H ps) (hm : may H a w = true) : Ps H (add ps w) := by
  unfold add
  split
  · rename_i hb
    obtain ⟨x, hx, _⟩ := may_box hm hb.1
    refine ⟨List.nodup_append.2 ⟨h.nd, by simp, fun p hp q hq => ?_⟩, fun p hp => ?_⟩
    · simp at hq; subst hq; exact fun e => hb.2 (e ▸ hp)
    · rcases List.mem_append.1 hp with h1 | h1
      · exact h.at_ p h1
      · simp at h1; subst h1; exact ⟨x, hx⟩
  · exact h
theorem addAll_ps {H : List It} {a : Nat} {ws : List Int} : ∀ {ps : List Int}, Ps H ps → (∀ w ∈ ws, may H a w = true) → Ps H (addAll ps ws) := by
  induction ws with
  | nil => intro ps h _; exact h
  | cons w r ih =>
    intro ps h hm
    rw [addAll_cons]
    exact ih (add_ps h (hm w (by simp))) (fun u hu => hm u (by simp [hu]))
/-- From the k-th place on: what each place's item names is added. -/
inductive Run (H : List It) : Nat → List Int → List Int → Prop
  | stop (k : Nat) (ps : List Int) (h : ps.length ≤ k) : Run H k ps ps
  | step (k : Nat) (ps : List Int) (p : Int) (r : List Int) (hp : ps[k]? = some p) (h : Run H (k + 1) (addAll ps (itm H p).ws) r) : Run H k ps r
section
variable {H : List It} {a k : Nat} {ps r r' : List Int}
theorem Run.ext (h : Run H k ps r) : ∃ x, r = ps ++ x := by
  induction h with
  | stop k ps h => exact ⟨[], by simp⟩
  | step k ps p r hp h ih =>
    obtain ⟨x, hx⟩ := addAll_ext (itm H p).ws ps
    obtain ⟨y, hy⟩ := ih
    exact ⟨x ++ y, by rw [hy, hx, List.append_assoc]⟩
theorem Run.det (h : Run H k ps r) (h' : Run H k ps r') : r = r' := by
  induction h with
  | stop k ps h =>
    cases h' with
    | stop _ _ _ => rfl
    | step _ _ p _ hp _ => have := (List.getElem?_eq_some_iff.1 hp).1; omega
  | step k ps p r hp h ih =>
    cases h' with
    | stop _ _ h0 => have := (List.getElem?_eq_some_iff.1 hp).1; omega
    | step _ _ q _ hq h0 =>
      rw [hp] at hq
      injection hq with hq
      subst hq
      exact ih h0
theorem Run.places (hw : Wf H a) (h : Run H k ps r) : Ps H ps → Ps H r := by
  induction h with
  | stop k ps h => exact id
  | step k ps p r hp h ih =>
    intro hs
    exact ih (addAll_ps hs (fun u hu => (hw.words _ (itAt_mem (hs.itAt (List.mem_of_getElem? hp))) u hu).2))
theorem Run.sub (h : Run H k ps r) {p : Int} (hp : p ∈ ps) : p ∈ r := by
  obtain ⟨x, hx⟩ := h.ext
  rw [hx]; exact List.mem_append.2 (.inl hp)
/-- Behind it all that is named from k on is there. -/
theorem Run.closed (h : Run H k ps r) : ∀ i p, k ≤ i → r[i]? = some p → ∀ u ∈ (itm H p).ws, boxd u = true → unN u ∈ r := by
  induction h with
  | stop k ps h => intro i p hi hp; have := (List.getElem?_eq_some_iff.1 hp).1; omega
  | step k ps p r hp h ih =>
    intro i q hi hq u hu hb
    by_cases e : k = i
    · subst e
      have : r[k]? = some p := by
        obtain ⟨x, hx⟩ := addAll_ext (itm H p).ws ps
        obtain ⟨y, hy⟩ := h.ext
        rw [hy, hx, List.append_assoc, List.getElem?_append_left (List.getElem?_eq_some_iff.1 hp).1, hp]
      rw [this] at hq
      injection hq with hq
      subst hq
      exact h.sub (addAll_mem hu hb)
    · exact ih i q (by omega) hq u hu hb
theorem Run.cl (h : Run H 0 ps r) : Cl H r := fun p hp u hu hb => by
  obtain ⟨i, hi, rfl⟩ := List.getElem_of_mem hp
  exact h.closed i _ (Nat.zero_le _) (List.getElem?_eq_getElem hi) u hu hb
/-- It meets only what must be met. -/
theorem Run.least {S : List Int} (hc : Cl H S) (h : Run H k ps r) : (∀ p ∈ ps, p ∈ S) → ∀ p ∈ r, p ∈ S := by
  induction h with
  | stop k ps h => exact id
  | step k ps p r hp h ih =>
    intro hs
    exact ih (addAll_in hs (fun u hu hb => hc p (hs p (List.mem_of_getElem? hp)) u hu hb))
end
/-! ### The second collection -/
section
variable {H : List It} {a : Nat} {ps : List Int}
theorem add_img (hw : Wf H a) (hs : Ps H ps) (hl : (hW H).length ≤ 16777216) {qs : List Int} (hq : ∀ p ∈ qs, p ∈ ps) {u : Int} (hu : Mv H a ps u) :
    add (qs.map fun p => (off H ps p : Int)) (reloc H ps u) = (add qs u).map fun p => (off H ps p : Int) := by
  by_cases hb : boxd u = true
  · obtain ⟨_, e1, e2, e3, e4⟩ := hu.box hs hl hb
    have hm : unN (reloc H ps u) ∈ (qs.map fun p => (off H ps p : Int)) ↔ unN u ∈ qs := by
      rw [e3, List.mem_map]
      constructor
      · rintro ⟨p, hp, e⟩
        have := off_inj (H := H) (fun _ _ => trivial) (hs.pos hw.pos) (hq p hp) (hu.2.2 hb) (by omega)
        rwa [← this]
      · intro h; exact ⟨_, h, rfl⟩
    unfold add
    by_cases h : unN u ∈ qs
    · rw [if_neg (fun h' => h'.2 (hm.2 h)), if_neg (fun h' => h'.2 h)]
    · rw [if_pos ⟨e4, fun h' => h (hm.1 h')⟩, if_pos ⟨hb, h⟩, List.map_append, e3]; rfl
  · have hf : boxd u = false := by simpa using hb
    rw [reloc_no hf]
    unfold add
    rw [hf]
    simp
theorem addAll_img (hw : Wf H a) (hs : Ps H ps) (hl : (hW H).length ≤ 16777216) {ws : List Int} : ∀ {qs : List Int}, (∀ p ∈ qs, p ∈ ps) → (∀ u ∈ ws, Mv H a ps u) →
    addAll (qs.map fun p => (off H ps p : Int)) (ws.map (reloc H ps)) = (addAll qs ws).map fun p => (off H ps p : Int) := by
  induction ws with
  | nil => intro qs _ _; rfl
  | cons w r ih =>
    intro qs hq hu
    rw [List.map_cons, addAll_cons, addAll_cons, add_img hw hs hl hq (hu w (by simp))]
    exact ih (add_in hq (hu w (by simp)).2.2) (fun u h => hu u (by simp [h]))
theorem itm_col (hw : Wf H a) (hs : Ps H ps) {p : Int} (hp : p ∈ ps) : itm (col H ps) (off H ps p : Int) = rel H ps (itm H p) := itm_some (itAt_col hw.pos hs hp)
theorem words_mv (hw : Wf H a) (hs : Ps H ps) (hc : Cl H ps) {p : Int} (hp : p ∈ ps) : ∀ u ∈ (itm H p).ws, Mv H a ps u := fun u hu => by
  obtain ⟨h1, h2⟩ := hw.words _ (itAt_mem (hs.itAt hp)) u hu
  exact ⟨h1, h2, hc p hp u hu⟩
theorem Run.img (hw : Wf H a) (hs : Ps H ps) (hc : Cl H ps) (hl : (hW H).length ≤ 16777216) {k : Nat} {qs r : List Int} (h : Run H k qs r) : (∀ p ∈ r, p ∈ ps) →
    Run (col H ps) k (qs.map fun p => (off H ps p : Int)) (r.map fun p => (off H ps p : Int)) := by
  induction h with
  | stop k qs h => intro _; exact .stop _ _ (by simpa using h)
  | step k qs p r hp h ih =>
    intro hr
    have hqr : ∀ q ∈ qs, q ∈ ps := fun q hq => hr q (h.sub (addAll_sub hq))
    have hpp : p ∈ ps := hqr p (List.mem_of_getElem? hp)
    refine .step _ _ (off H ps p : Int) _ (by rw [List.getElem?_map, hp]; rfl) ?_
    rw [itm_col hw hs hpp]
    show Run _ _ (addAll _ ((itm H p).ws.map (reloc H ps))) _
    rw [addAll_img hw hs hl hqr (words_mv hw hs hc hpp)]
    exact ih hr
theorem lenI_col (hw : Wf H a) (hs : Ps H ps) {p : Int} (hp : p ∈ ps) : lenI (col H ps) (off H ps p : Int) = lenI H p := by
  unfold lenI
  rw [itm_col hw hs hp, rel_W, List.length_map]
theorem off_img (hw : Wf H a) (hs : Ps H ps) {qs : List Int} (hq : ∀ p ∈ qs, p ∈ ps) {p : Int} (hp : p ∈ ps) : off (col H ps) (qs.map fun p => (off H ps p : Int)) (off H ps p : Int) = off H qs p := by
  induction qs with
  | nil => rfl
  | cons q qs ih =>
    simp only [List.map_cons, off]
    by_cases e : q = p
    · rw [if_pos (by rw [e]), if_pos e]
    · rw [if_neg (fun h => e (off_inj (H := H) (fun _ _ => trivial) (hs.pos hw.pos) (hq q (by simp)) hp (by omega))), if_neg e, lenI_col hw hs (hq q (by simp)), ih (fun p hp => hq p (by simp [hp]))]
theorem reloc_img (hw : Wf H a) (hs : Ps H ps) (hl : (hW H).length ≤ 16777216) {u : Int} (hu : Mv H a ps u) : reloc (col H ps) (ps.map fun p => (off H ps p : Int)) (reloc H ps u) = reloc H ps u := by
  by_cases hb : boxd u = true
  · obtain ⟨e0, e1, e2, e3, e4⟩ := hu.box hs hl hb
    unfold reloc at e4 ⊢
    rw [if_pos e4]
    unfold reloc at e2 e3
    rw [e2, e3, off_img hw hs (fun _ h => h) (hu.2.2 hb), if_pos hb]
  · have hf : boxd u = false := by simpa using hb
    rw [reloc_no hf, reloc_no hf]
theorem raw_img (hw : Wf H a) (hs : Ps H ps) {qs : List Int} (hq : ∀ p ∈ qs, p ∈ ps) : raw (col H ps) (qs.map fun p => (off H ps p : Int)) = (raw H qs).map (rel H ps) := by
  induction qs with
  | nil => rfl
  | cons q qs ih =>
    unfold raw at ih ⊢
    simp only [List.map_cons]
    rw [itm_col hw hs (hq q (by simp)), ih (fun p hp => hq p (by simp [hp]))]
/-- Collected once more, for what was told, a heap is as it was. -/
theorem col_again (hw : Wf H a) (hl : (hW H).length ≤ 16777216) {ws : List Int} (hm : ∀ u ∈ ws, U64 u ∧ may H a u = true) (h : Run H 0 (addAll [] ws) ps) {ps2 : List Int} (h2 : Run (col H ps) 0 (addAll [] (ws.map (reloc H ps))) ps2) :
    ws.map (reloc H ps) = (ws.map (reloc H ps)).map (reloc (col H ps) ps2) ∧ hW (col (col H ps) ps2) = hW (col H ps) := by
  have hs := h.places hw (addAll_ps (Ps.nil H) (fun u hu => (hm u hu).2))
  have hc := h.cl
  have hmv : ∀ u ∈ ws, Mv H a ps u := fun u hu => ⟨(hm u hu).1, (hm u hu).2, fun hb => h.sub (addAll_mem hu hb)⟩
  have h3 := h.img hw hs hc hl (fun _ h => h)
  have h4 := addAll_img (qs := []) hw hs hl (fun p hp => by cases hp) hmv
  rw [List.map_nil] at h4
  rw [← h4] at h3
  have e := h2.det h3
  subst e
  refine ⟨?_, ?_⟩
  · rw [List.map_map]
    exact (List.map_congr_left (fun u hu => (reloc_img hw hs hl (hmv u hu)).symm))
  · rw [hW_col]
    unfold R
    rw [raw_img hw hs (fun _ h => h)]
    show (hW (col H ps)).map _ = _
    have hid : ∀ G : List It, (∀ x ∈ G, ∀ v ∈ itW x, reloc (col H ps) (ps.map fun p => (off H ps p : Int)) v = v) → (hW G).map (reloc (col H ps) (ps.map fun p => (off H ps p : Int))) = hW G := by
      intro G
      induction G with
      | nil => intro _; rfl
      | cons x r ih =>
        intro hx
        simp only [hW, List.map_append]
        rw [ih (fun y hy => hx y (by simp [hy]))]
        congr 1
        exact (List.map_congr_left (g := id) (fun v hv => hx x (by simp) v hv)).trans (List.map_id _)
    refine hid _ (fun x hx v hv => ?_)
    obtain ⟨y, hy, rfl⟩ := List.mem_map.1 hx
    obtain ⟨p, hp, rfl⟩ := List.mem_map.1 hy
    rw [rel_W] at hv
    obtain ⟨v0, hv0, rfl⟩ := List.mem_map.1 hv
    unfold itW at hv0
    rcases List.mem_append.1 hv0 with hh | hh
    · have hf := hd_box v0 hh
      rw [reloc_no hf, reloc_no hf]
    · exact reloc_img hw hs hl (words_mv hw hs hc hp v0 hh)
end
end Go.Proofs.Ytnedjmjcbmoknaa.Hp
