/- A term's bytes: plain. -/
import Derived.Test.YtbpdaoedmjpdpaaSeqR
namespace Go.Proofs.Ytbpdaoedmjpdpaa.Hs
open K
set_option linter.unusedVariables false
set_option linter.unusedSimpArgs false

def le8 (n : Int) : List B8 := (List.range 8).map fun i => b8 (n % 18446744073709551616 / (256 : Int) ^ i)
theorem le8_len (n : Int) : (le8 n).length = 8 := by simp [le8]
theorem le8_at (n : Int) {k : Nat} (hk : k < 8) : (le8 n).take (k + 1) = (le8 n).take k ++ [b8 (n % 18446744073709551616 / (256 : Int) ^ k)] := by
  rw [List.take_add_one]
  simp [le8, hk]
def strB (s : ByteArray) : List B8 := s.data.toList.map fun c => b8 (c.toNat : Int)
/-- Has it a number? -/
def hasN (k : Int) : Bool := decide (k = 1 ∨ k = 3 ∨ k = 4 ∨ k = 5 ∨ k = 6)
def midB (k n : Int) (s : ByteArray) : List B8 := if hasN k = true then le8 n else if k = 2 then b8 (s.size : Int) :: strB s else []
def lenB (k : Int) (m : Nat) : List B8 := if k = 7 ∨ k = 5 then [b8 (m : Int)] else []
mutual
def bytesT : Tm → List B8
  | .mk k n s l => b8 k :: (midB k n s ++ (lenB k l.length ++ if hasB (.mk k n s l) = true then bytesL l else []))
def bytesL : List Tm → List B8
  | [] => []
  | t :: r => bytesT t ++ bytesL r
end
theorem bytesT_mk (k n : Int) (s : ByteArray) (l : List Tm) : bytesT (.mk k n s l) = b8 k :: (midB k n s ++ (lenB k l.length ++ if hasB (.mk k n s l) = true then bytesL l else [])) := by rw [bytesT]
theorem bytesL_nil : bytesL [] = [] := by rw [bytesL]
theorem bytesL_cons (t : Tm) (r : List Tm) : bytesL (t :: r) = bytesT t ++ bytesL r := by rw [bytesL]
theorem bytesL_append (l r : List Tm) : bytesL (l ++ r) = bytesL l ++ bytesL r := by
  induction l with
  | nil => simp [bytesL_nil]
  | cons t l ih => simp only [List.cons_append, bytesL_cons, ih, List.append_assoc]
theorem bytesL_take_succ {l : List Tm} {k : Nat} {u : Tm} (h : l[k]? = some u) : bytesL (l.take (k + 1)) = bytesL (l.take k) ++ bytesT u := by
  rw [List.take_add_one, h]
  simp [bytesL_append, bytesL_cons, bytesL_nil]
end Go.Proofs.Ytbpdaoedmjpdpaa.Hs
