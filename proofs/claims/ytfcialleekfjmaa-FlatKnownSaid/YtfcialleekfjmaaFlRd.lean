/- Plain: the term of words. -/
import Derived.Test.YtfcialleekfjmaaFlSpec
namespace Go.Proofs.Ytfcialleekfjmaa.Fl
open Go.RowKit K Wd At
set_option linter.unusedVariables false
set_option linter.unusedSimpArgs false

def leafK (k : Int) : Prop := k = 1 ∨ k = 3 ∨ k = 4 ∨ k = 6 ∨ k = 8
instance (k : Int) : Decidable (leafK k) := by unfold leafK; infer_instance
/-- The terms of words, each read from where the one ahead ended. -/
def rdL (rd : Int → Nat → Option (Tm × Nat)) : List Int → Nat → Option (List Tm × Nat)
  | [], p => some ([], p)
  | w :: r, p => match rd w p with
    | none => none
    | some x => match rdL rd r x.2 with
      | none => none
      | some y => some (x.1 :: y.1, y.2)
/-- The head at place p: the number, how many parts, where they begin. -/
def hdR (l : List Int) (k : Int) (p : Nat) : Option (Int × Nat × Nat) :=
  if k = 9 then some (0, 2, p) else match l[p]? with
    | none => none
    | some h => if unE h = 0 ∧ unK h = (if k = 7 then 10 else 11) then (if k = 7 then some (0, (unN h).toNat, p + 1) else some (unN h / 128, (unN h % 128).toNat, p + 1)) else none
/-- The term of a word w; what is boxed lies from place p on. -/
def rdT (A : List ByteArray) (l : List Int) : Nat → Int → Nat → Option (Tm × Nat)
  | 0, _, _ => none
  | fuel + 1, w, p => if unE w ≠ 0 then none
    else if leafK (unK w) then some (.mk (unK w) (unN w) ⟨#[]⟩ [], p)
    else if unK w = 2 then (match A[(unN w).toNat]? with
      | some s => some (.mk 2 0 s [], p)
      | none => none)
    else if boxK (unK w) then (if unN w = (p : Int) then (match hdR l (unK w) p with
      | none => none
      | some h => if h.2.2 + h.2.1 ≤ l.length then (match rdL (rdT A l fuel) ((l.drop h.2.2).take h.2.1) (h.2.2 + h.2.1) with
        | none => none
        | some y => some (.mk (unK w) h.1 ⟨#[]⟩ y.1, y.2)) else none) else none)
    else none
theorem rdL_append (rd : Int → Nat → Option (Tm × Nat)) (a b : List Int) (p : Nat) : rdL rd (a ++ b) p = match rdL rd a p with
    | none => none
    | some y => match rdL rd b y.2 with
      | none => none
      | some z => some (y.1 ++ z.1, z.2) := by
  induction a generalizing p with
  | nil =>
    show rdL rd b p = match rdL rd b p with | none => none | some z => some ([] ++ z.1, z.2)
    cases rdL rd b p with
    | none => rfl
    | some z => rfl
  | cons w r ih =>
    rw [List.cons_append, rdL, rdL]
    cases rd w p with
    | none => rfl
    | some x =>
      simp only
      rw [ih]
      cases rdL rd r x.2 with
      | none => rfl
      | some y =>
        simp only
        cases rdL rd b y.2 with
        | none => rfl
        | some z => rfl
theorem take_snoc_int {l : List Int} {i : Nat} {u : Int} (h : l[i]? = some u) : l.take (i + 1) = l.take i ++ [u] := by
  rw [List.take_add_one, h]; rfl
theorem rdL_snoc (rd : Int → Nat → Option (Tm × Nat)) {a : List Int} {i : Nat} {w : Int} (p : Nat) (h : a[i]? = some w) : rdL rd (a.take (i + 1)) p = match rdL rd (a.take i) p with
    | none => none
    | some y => match rd w y.2 with
      | none => none
      | some x => some (y.1 ++ [x.1], x.2) := by
  rw [take_snoc_int h, rdL_append]
  cases rdL rd (a.take i) p with
  | none => rfl
  | some y =>
    simp only [rdL]
    cases rd w y.2 with
    | none => rfl
    | some x => rfl
theorem rdL_stop (rd : Int → Nat → Option (Tm × Nat)) {a : List Int} {i : Nat} {w : Int} {p : Nat} {y : List Tm × Nat} (h : a[i]? = some w) (hy : rdL rd (a.take i) p = some y) (hw : rd w y.2 = none) : rdL rd a p = none := by
  have h1 := rdL_snoc rd p h
  rw [hy] at h1
  simp only [hw] at h1
  have := rdL_append rd (a.take (i + 1)) (a.drop (i + 1)) p
  rw [List.take_append_drop, h1] at this
  exact this
theorem rdL_len {rd : Int → Nat → Option (Tm × Nat)} {a : List Int} {p : Nat} {y : List Tm × Nat} (h : rdL rd a p = some y) : y.1.length = a.length := by
  induction a generalizing p y with
  | nil => rw [rdL] at h; injection h with h; subst h; rfl
  | cons w r ih =>
    rw [rdL] at h
    cases hx : rd w p with
    | none => rw [hx] at h; cases h
    | some x =>
      rw [hx] at h
      simp only at h
      cases hz : rdL rd r x.2 with
      | none => rw [hz] at h; cases h
      | some z =>
        rw [hz] at h
        injection h with h
        subst h
        simp [ih hz]
/-- The term of words. -/
def rdF (A : List ByteArray) (l : List Int) : Option Tm := match l[0]? with
  | none => none
  | some w => match rdT A l (l.length + 1) w 1 with
    | none => none
    | some x => if x.2 = l.length then some x.1 else none
def rdE (A : List ByteArray) (l : List Int) : Int := if 65536 < l.length then 3 else if (rdF A l).isSome = true then 0 else 4
end Go.Proofs.Ytfcialleekfjmaa.Fl
