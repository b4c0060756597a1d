/- The chapter's examples, plain. -/
import Derived.Test.YtnedjmjcbmoknaaHpVal
import Derived.Test.YtnedjmjcbmoknaaHpCol
namespace Go.Proofs.Ytnedjmjcbmoknaa.Hp
open Go.RowKit K At Wd Fl
set_option linter.unusedVariables false
set_option linter.unusedSimpArgs false

def H9 : List It := H8 ++ [⟨9, 0, [7, 8]⟩]
def H10 : List It := H8 ++ [⟨7, 0, [7, 7]⟩]
def twoC : Tm := tcons two tnil
theorem hW_H9 : hW H9 = [42, 17, 33, 7, 8] := by rfl
theorem hW_H10 : hW H10 = [42, 17, 33, 42, 7, 7] := by rfl
theorem may_78 : ∀ u ∈ [(7 : Int), 8], U64 u ∧ may H8 0 u = true := fun u hu => by
  simp at hu
  rcases hu with rfl | rfl
  · exact ⟨by unfold U64; omega, by rfl⟩
  · exact ⟨by unfold U64; omega, by rfl⟩
theorem may_77 : ∀ u ∈ [(7 : Int), 7], U64 u ∧ may H8 0 u = true := fun u hu => by
  simp at hu
  subst hu
  exact ⟨by unfold U64; omega, by rfl⟩
theorem may_7 : ∀ u ∈ [(7 : Int)], U64 u ∧ may H9 0 u = true := fun u hu => by
  simp at hu
  subst hu
  exact ⟨by unfold U64; omega, by rfl⟩
theorem pack_57 : packW 9 (3 : Int) = 57 := by rfl
theorem pack_55 : packW 7 (3 : Int) = 55 := by rfl
theorem rep_twoC : Rep H9 [] twoC 57 := by
  refine Rep.box (x := ⟨9, 0, [7, 8]⟩) [two, tnil] 57 (by unfold U64; omega) (by rfl) (by decide) (by rfl) (by rfl) rfl ?_
  intro i u v hu hv
  match i with
  | 0 =>
    simp at hu hv; subst hu; subst hv
    exact rep_two H9 [] [⟨9, 0, [7, 8]⟩] rfl
  | 1 =>
    simp at hu hv; subst hu; subst hv
    exact Rep.leaf 8 0 8 (by decide) (by unfold U64; omega) (by rfl) (by rfl) (by rfl)
  | i + 2 => simp at hu
theorem wds_twoC : wds twoC = 6 := by
  unfold twoC tcons tnil
  rw [wds_mk]
  simp only [wdsL_cons, wdsL_nil, wds_two, wds_mk]; rfl
/-! four does not fit. -/
theorem snd_four : sndL (subs four) = true := by
  unfold four ttup tnum
  simp only [subs_eq, subsL_cons, subsL_nil, Tm.l_mk, List.append_nil, List.cons_append, List.nil_append]
  rfl
theorem wds_four : wds four = 6 := by
  unfold four ttup tnum
  simp only [wds_mk, wdsL_cons, wdsL_nil]; rfl
theorem nodes_four : nodes four = 5 := by unfold four ttup tnum; simp [nodes_mk, nodesL_cons, nodesL_nil]
theorem chk_four : chk four = 0 := by rw [chk_eq, if_pos snd_four, wds_four]; rfl
theorem nums_four (L : List ByteArray) : nums four L = (true, L) := by
  unfold four ttup tnum
  simp [nums_mk, numsL_cons, numsL_nil]
theorem flE_four (L : List ByteArray) : flE L four = 0 := by unfold flE; rw [if_pos chk_four, nums_four]; rfl
theorem flL_four (L : List ByteArray) : flL L four = L := by unfold flL; rw [if_pos chk_four, nums_four]
theorem lay_four (f : ByteArray → Int) : (lay f four 1).length = 5 := by
  have := lay_len f four 1
  rw [wds_four] at this
  omega
theorem putOk_four : ¬ putOk [] 8 H9 four := fun h => by
  have := h.2
  rw [lay_four, hW_H9] at this
  simp at this
theorem putH_four : putH [] 8 H9 four = H9 := by unfold putH; rw [if_neg putOk_four]
theorem putE_four : putE [] 8 H9 four = 11 := by
  unfold putE
  rw [if_pos (flE_four []), if_neg (fun h => putOk_four ⟨flE_four [], h⟩)]
theorem putW_four : putW [] 8 H9 four = 0 := by unfold putW; rw [if_neg putOk_four]
/-! Collect([7]). -/
theorem run_7 : Run H9 0 (addAll [] [7]) [0] := by
  have e : addAll [] [7] = [0] := by rfl
  rw [e]
  exact .step 0 [0] 0 [0] rfl (.stop 1 _ (by decide))
theorem col_7 : col H9 [0] = H8 := by rfl
theorem reloc_7 : reloc H9 [0] 7 = 7 := by rfl
theorem may_57 : may H8 0 57 = false := by rfl
theorem may_23 : may H10 0 23 = false := by rfl
theorem may_55 : may H10 0 55 = true := by rfl
theorem may_17 : may H10 0 17 = true := by rfl
theorem parts_55 : [(7 : Int), 7] = if boxd 55 = true then (itm H10 (unN 55)).ws else [] := by rfl
theorem parts_17 : ([] : List Int) = if boxd 17 = true then (itm H10 (unN 17)).ws else [] := by rfl
end Go.Proofs.Ytnedjmjcbmoknaa.Hp
