/- The examples' heap, plain. -/
import Derived.Test.YtnedjmjcbmoknaaHpPutW
import Derived.Test.YtnedjmjcbmoknaaHpGetA
namespace Go.Proofs.Ytnedjmjcbmoknaa.Hp
open Go.RowKit K At Wd Fl
set_option linter.unusedVariables false
set_option linter.unusedSimpArgs false

def two : Tm := ttup [tnum 1, tnum 2]
def four : Tm := ttup [tnum 1, tnum 2, tnum 3, tnum 4]
def H8 : List It := [⟨7, 0, [17, 33]⟩]
theorem snd_two : sndL (subs two) = true := by
  unfold two ttup tnum
  simp only [subs_eq, subsL_cons, subsL_nil, Tm.l_mk, List.append_nil, List.cons_append, List.nil_append]
  rfl
theorem wds_two : wds two = 4 := by
  unfold two ttup tnum
  simp only [wds_mk, wdsL_cons, wdsL_nil]; rfl
theorem nodes_two : nodes two = 3 := by unfold two ttup tnum; simp [nodes_mk, nodesL_cons, nodesL_nil]
theorem chk_two : chk two = 0 := by rw [chk_eq, if_pos snd_two, wds_two]; rfl
theorem nums_two (L : List ByteArray) : nums two L = (true, L) := by
  unfold two ttup tnum
  simp [nums_mk, numsL_cons, numsL_nil]
theorem flE_two (L : List ByteArray) : flE L two = 0 := by unfold flE; rw [if_pos chk_two, nums_two]; rfl
theorem flL_two (L : List ByteArray) : flL L two = L := by unfold flL; rw [if_pos chk_two, nums_two]
theorem its_two (f : ByteArray → Int) (p : Nat) : its f two p = [⟨7, 0, [17, 33]⟩] := by
  unfold two ttup tnum
  rw [its_mk, if_pos (by decide)]
  simp only [itsL_cons, itsL_nil, its_mk, layP_cons, layP_nil, ownW_mk, if_neg (show ¬ boxK 1 by decide)]
  rfl
theorem lay_two (f : ByteArray → Int) (p : Nat) : (lay f two p).length = 3 := by
  rw [← its_hW, its_two]; rfl
theorem putOk_two : putOk [] 8 [] two := ⟨flE_two [], by rw [lay_two]; decide⟩
theorem putH_two : putH [] 8 [] two = H8 := by
  unfold putH
  rw [if_pos putOk_two, its_two]; rfl
theorem putE_two : putE [] 8 [] two = 0 := by unfold putE; rw [if_pos (flE_two []), if_pos putOk_two.2]
theorem putW_two : putW [] 8 [] two = 7 := by
  unfold putW
  rw [if_pos putOk_two]
  unfold two ttup
  rw [ownW_mk]
  rfl
theorem hW_H8 : hW H8 = [42, 17, 33] := by rfl
theorem rep_two (H : List It) (L : List ByteArray) (x : List It) (h : H = H8 ++ x) : Rep H L two 7 := by
  subst h
  refine Rep.box (x := ⟨7, 0, [17, 33]⟩) [tnum 1, tnum 2] 7 (by unfold U64; omega) (by rfl) (by decide) (by rfl) (by rfl) rfl ?_
  intro i u v hu hv
  match i with
  | 0 =>
    simp at hu hv; subst hu; subst hv
    exact Rep.leaf 1 1 17 (by decide) (by unfold U64; omega) (by rfl) (by rfl) (by rfl)
  | 1 =>
    simp at hu hv; subst hu; subst hv
    exact Rep.leaf 1 2 33 (by decide) (by unfold U64; omega) (by rfl) (by rfl) (by rfl)
  | i + 2 => simp at hu
end Go.Proofs.Ytnedjmjcbmoknaa.Hp
