/- Plain: the names that AtomFull puts: no two are the same; what the table answers at each. -/
import Derived.Test.YtnomnkohhfkdnaaName06
import Derived.Test.YtnomnkohhfkdnaaLaw06
namespace Go.Proofs.Ytnomnkohhfkdnaa.At
open Go.RowKit K
set_option linter.unusedVariables false
set_option linter.unusedSimpArgs false

theorem nm_size (l n : Nat) : (nm l n).size = l := by
  show (nmL l n).toArray.size = l
  simp [nmL_length]
theorem nm_digit {l a b j : Nat} (h : nm l a = nm l b) (hj : j < l) : dv a j % 26 = dv b j % 26 := by
  have h1 : nmL l a = nmL l b := by
    unfold nm at h
    injection h with h
    have := congrArg Array.toList h
    simpa using this
  have h2 : (nmL l a)[j]? = (nmL l b)[j]? := by rw [h1]
  unfold nmL at h2
  simp [hj] at h2
  have h3 := congrArg UInt8.toNat h2
  rw [UInt8.toNat_ofNat', UInt8.toNat_ofNat'] at h3
  omega
theorem nm_inj {l a b : Nat} (hl : 4 ≤ l) (ha : a < 456976) (hb : b < 456976) (h : nm l a = nm l b) : a = b := by
  have h0 := nm_digit h (show 0 < l by omega)
  have h1 := nm_digit h (show 1 < l by omega)
  have h2 := nm_digit h (show 2 < l by omega)
  have h3 := nm_digit h (show 3 < l by omega)
  unfold dv at h0 h1 h2 h3
  simp only [Nat.pow_zero, Nat.pow_one, show 26 ^ 2 = 676 from rfl, show 26 ^ 3 = 17576 from rfl] at h0 h1 h2 h3
  omega
def names (l i : Nat) : List ByteArray := (List.range i).map (nm l)
theorem names_length (l i : Nat) : (names l i).length = i := by simp [names]
theorem names_succ (l i : Nat) : names l (i + 1) = names l i ++ [nm l i] := by simp [names, List.range_succ]
theorem names_bytes (l i : Nat) : bytesOf (names l i) = i * l := by
  induction i with
  | zero => simp [names, bytesOf]
  | succ i ih => rw [names_succ, bytesOf_append, ih, nm_size, Nat.succ_mul]
theorem names_mem {l i n : Nat} (hl : 4 ≤ l) (hi : i ≤ 5000) (hn : n ≤ 5000) : nm l n ∈ names l i ↔ n < i := by
  unfold names
  rw [List.mem_map]
  constructor
  · rintro ⟨a, ha, h⟩
    rw [List.mem_range] at ha
    have := nm_inj hl (by omega) (by omega) h
    omega
  · intro h
    exact ⟨n, List.mem_range.2 h, rfl⟩
theorem names_get {l i n : Nat} (h : n < i) : (names l i)[n]? = some (nm l n) := by simp [names, h]
theorem names_idx {l i n : Nat} (hl : 4 ≤ l) (hi : i ≤ 5000) (h : n < i) : idx (names l i) (nm l n) = n := by
  have hm := (names_mem (n := n) hl hi (by omega)).2 h
  have h1 := idx_lt hm
  have h2 := idx_get hm
  rw [names_length] at h1
  rw [names_get h1] at h2
  injection h2 with h2
  exact nm_inj hl (by omega) (by omega) h2

def roomOf (l : Nat) : Nat := min 4096 (65536 / l)
theorem roomOf_le (l : Nat) : roomOf l ≤ 4096 := by unfold roomOf; omega
theorem roomOf_pos {l : Nat} (h1 : 1 ≤ l) (h2 : l ≤ 64) : 1024 ≤ roomOf l := by
  unfold roomOf
  have : 1024 ≤ 65536 / l := by rw [Nat.le_div_iff_mul_le (by omega)]; omega
  omega
theorem roomOf_mul {l i : Nat} (h1 : 1 ≤ l) (h : i < roomOf l) : i * l + l ≤ 65536 := by
  unfold roomOf at h
  have : i + 1 ≤ 65536 / l := by omega
  rw [Nat.le_div_iff_mul_le (by omega)] at this
  rw [Nat.succ_mul] at this
  exact this
theorem roomOf_full {l : Nat} (h1 : 1 ≤ l) : 4096 ≤ roomOf l ∨ 65536 < roomOf l * l + l := by
  unfold roomOf
  rcases Nat.lt_or_ge (65536 / l) 4096 with h | h
  · right
    have e : min 4096 (65536 / l) = 65536 / l := by omega
    rw [e]
    have := Nat.lt_succ_self (65536 / l)
    rw [Nat.div_lt_iff_lt_mul (by omega)] at this
    rw [Nat.succ_mul] at this
    omega
  · left; omega
theorem names_step {l i : Nat} (hl : 4 ≤ l) (hl2 : l ≤ 64) (h : i < roomOf l) : intB (names l i) (nm l i) (i : Int) = true ∧ inL (names l i) (nm l i) = names l (i + 1) := by
  have hr := roomOf_le l
  have hm : nm l i ∉ names l i := fun hh => by have := (names_mem (i := i) (n := i) hl (by omega) (by omega)).1 hh; omega
  have hb : ¬ 64 < (nm l i).size := by rw [nm_size]; omega
  have hmul := roomOf_mul (by omega) h
  have hf : full (names l i) (nm l i) = false := by
    unfold full
    rw [names_length, names_bytes, nm_size]
    simp
    omega
  constructor
  · unfold intB inN inE
    rw [if_neg hb, if_neg hm, if_neg hb, if_neg hm, hf, names_length]
    simp
  · unfold inL
    rw [if_neg hb, if_neg hm, hf, names_succ]
    simp
theorem names_over {l : Nat} (hl : 4 ≤ l) (hl2 : l ≤ 64) : inE (names l (roomOf l)) (nm l (roomOf l)) = 8 ∧ inL (names l (roomOf l)) (nm l (roomOf l)) = names l (roomOf l) ∧ inN (names l (roomOf l)) (nm l (roomOf l)) = 0 := by
  have hr := roomOf_le l
  have hm : nm l (roomOf l) ∉ names l (roomOf l) := fun hh => by have := (names_mem (i := roomOf l) (n := roomOf l) hl (by omega) (by omega)).1 hh; omega
  have hb : ¬ 64 < (nm l (roomOf l)).size := by rw [nm_size]; omega
  have hf : full (names l (roomOf l)) (nm l (roomOf l)) = true := by
    unfold full
    rw [names_length, names_bytes, nm_size]
    simp
    exact roomOf_full (by omega)
  refine ⟨?_, ?_, ?_⟩
  · unfold inE; rw [if_neg hb, if_neg hm, hf]; simp
  · unfold inL; rw [if_neg hb, if_neg hm, hf]; simp
  · unfold inN; rw [if_neg hb, if_neg hm, hf]; simp
theorem names_again {l n : Nat} (hl : 4 ≤ l) (hl2 : l ≤ 64) (h : n < roomOf l) : intB (names l (roomOf l)) (nm l n) (n : Int) = true ∧ inL (names l (roomOf l)) (nm l n) = names l (roomOf l) := by
  have hr := roomOf_le l
  have hm : nm l n ∈ names l (roomOf l) := (names_mem hl (by omega) (by omega)).2 h
  have hb : ¬ 64 < (nm l n).size := by rw [nm_size]; omega
  constructor
  · unfold intB inN inE
    rw [if_neg hb, if_pos hm, if_neg hb, if_pos hm, names_idx hl (by omega) h]
    simp
  · unfold inL
    rw [if_neg hb, if_pos hm]
end Go.Proofs.Ytnomnkohhfkdnaa.At
