/- Plain: atoms by numbers; the map of a table and what it says of a text. No program in sight. -/
import Derived.Test.YtnedjmjcbmoknaaKeep
import Derived.Maps.Views
namespace Go.Proofs.Ytnedjmjcbmoknaa.At
open Go.RowKit K

instance decMem : (L : List ByteArray) → (s : ByteArray) → Decidable (s ∈ L)
  | [], s => isFalse (by simp)
  | a :: r, s =>
    if h : a = s then isTrue (by simp [h])
    else match decMem r s with
      | isTrue h' => isTrue (by simp [h'])
      | isFalse h' => isFalse (fun hm => by rcases List.mem_cons.1 hm with e | e; exact h e.symm; exact h' e)

/-- The place of a text in a list (its length, if it is not there). -/
def idx : List ByteArray → ByteArray → Nat
  | [], _ => 0
  | a :: r, s => if a = s then 0 else idx r s + 1
def bytesOf : List ByteArray → Nat
  | [] => 0
  | a :: r => a.size + bytesOf r
def full (L : List ByteArray) (s : ByteArray) : Bool := decide (4096 ≤ L.length ∨ 65536 < bytesOf L + s.size)
def inN (L : List ByteArray) (s : ByteArray) : Int := if 64 < s.size then 0 else if s ∈ L then (idx L s : Int) else if full L s then 0 else (L.length : Int)
def inE (L : List ByteArray) (s : ByteArray) : Int := if 64 < s.size then 2 else if s ∈ L then 0 else if full L s then 8 else 0
def inL (L : List ByteArray) (s : ByteArray) : List ByteArray := if 64 < s.size then L else if s ∈ L then L else if full L s then L else L ++ [s]

/-- What Find answers. -/
def fdN (L : List ByteArray) (s : ByteArray) : Int := if s ∈ L then (idx L s : Int) else 0
def fdB (L : List ByteArray) (s : ByteArray) : Bool := decide (s ∈ L)

theorem idx_le (L : List ByteArray) (s : ByteArray) : idx L s ≤ L.length := by
  induction L with
  | nil => simp [idx]
  | cons a r ih => simp only [idx]; split <;> simp; omega
theorem idx_lt {L : List ByteArray} {s : ByteArray} (h : s ∈ L) : idx L s < L.length := by
  induction L with
  | nil => simp at h
  | cons a r ih =>
    simp only [idx]
    split
    · simp
    · rename_i hne
      have : s ∈ r := by
        rcases List.mem_cons.1 h with h | h
        · exact absurd h.symm hne
        · exact h
      simp; exact ih this
theorem idx_get {L : List ByteArray} {s : ByteArray} (h : s ∈ L) : L[idx L s]? = some s := by
  induction L with
  | nil => simp at h
  | cons a r ih =>
    simp only [idx]
    split
    · rename_i e; simp [e]
    · rename_i hne
      have : s ∈ r := by
        rcases List.mem_cons.1 h with h | h
        · exact absurd h.symm hne
        · exact h
      simpa using ih this
theorem idx_append_mem {L : List ByteArray} {s : ByteArray} (h : s ∈ L) (x : List ByteArray) : idx (L ++ x) s = idx L s := by
  induction L with
  | nil => simp at h
  | cons a r ih =>
    simp only [idx, List.cons_append]
    split
    · rfl
    · rename_i hne
      have : s ∈ r := by
        rcases List.mem_cons.1 h with h | h
        · exact absurd h.symm hne
        · exact h
      rw [ih this]
theorem idx_append_new {L : List ByteArray} {s : ByteArray} (h : s ∉ L) : idx (L ++ [s]) s = L.length := by
  induction L with
  | nil => simp [idx]
  | cons a r ih =>
    have h1 : a ≠ s := fun e => h (by simp [e])
    have h2 : s ∉ r := fun e => h (by simp [e])
    simp [idx, h1, ih h2]
theorem bytesOf_append (L : List ByteArray) (s : ByteArray) : bytesOf (L ++ [s]) = bytesOf L + s.size := by
  induction L with
  | nil => simp [bytesOf]
  | cons a r ih => simp [bytesOf, ih]; omega

abbrev U := Unit
def key (s : ByteArray) : Lit := .string s.data.toList
theorem key_inj {s s' : ByteArray} (h : key s = key s') : s = s' := by
  unfold key at h
  injection h with h
  obtain ⟨a⟩ := s
  obtain ⟨b⟩ := s'
  simp only at h
  exact congrArg _ (Array.ext' h)
/-- What the map says of each text. -/
def MapIs (D : DataW Unit) (L : List ByteArray) : Prop :=
  Maps.IsMap D ∧ ∀ s : ByteArray, Maps.has D (key s) = decide (s ∈ L) ∧ D.atKey (key s) (.lit (.int .i64 0)) = .lit (.int .i64 (if s ∈ L then (idx L s : Int) else 0))
theorem mapIs_nil : MapIs (.map []) [] := ⟨Maps.isMap_empty, fun s => ⟨by simp [Maps.has], by simp [DataW.atKey]⟩⟩
theorem isKey (s : ByteArray) : WideAt.IsKeyLit (key s) := by simp [key, WideAt.IsKeyLit]
theorem mapIs_put {D : DataW Unit} {L : List ByteArray} {s : ByteArray} (h : MapIs D L) (hs : s ∉ L) : MapIs (D.put (key s) (.lit (.int .i64 (L.length : Int)))) (L ++ [s]) := by
  refine ⟨h.1.put _ _, fun x => ?_⟩
  by_cases e : x = s
  · subst e
    refine ⟨by rw [Maps.has_put_same h.1 (isKey x)]; simp, ?_⟩
    rw [Maps.atKey_put_same h.1 (isKey x)]
    simp [idx_append_new hs]
  · have hne : key x ≠ key s := fun h' => e (key_inj h')
    obtain ⟨h1, h2⟩ := h.2 x
    refine ⟨by rw [Maps.has_put_other hne, h1]; simp [e], ?_⟩
    rw [Maps.atKey_put_other hne, h2]
    by_cases hx : x ∈ L
    · simp [hx, idx_append_mem hx]
    · simp [hx, e]
end Go.Proofs.Ytnedjmjcbmoknaa.At
