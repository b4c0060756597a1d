/- What 'not large' gives. Plain. -/
import Derived.Test.YtnedjmjcbmoknaaTm
namespace Go.Proofs.Ytnedjmjcbmoknaa.K
theorem small_nodes {t : Tm} {m n : Nat} (h : largeT t m = false) (hm : m ≤ n) : nodes t ≤ n := by
  unfold largeT at h
  rw [Bool.or_eq_false_iff] at h
  have := of_decide_eq_false h.1
  omega
theorem small_all {l : List Tm} {m n : Nat} (h : largeB l m = false) (hm : m ≤ n) : nodesL l ≤ n := by
  unfold largeB at h
  rw [Bool.or_eq_false_iff] at h
  have := of_decide_eq_false h.1
  omega
theorem eqT_self (t : Tm) : eqT t t = true := eqT_iff.2 rfl
theorem eqTs_self (l : List Tm) : eqTs l l = true := eqTs_iff.2 rfl
end Go.Proofs.Ytnedjmjcbmoknaa.K
