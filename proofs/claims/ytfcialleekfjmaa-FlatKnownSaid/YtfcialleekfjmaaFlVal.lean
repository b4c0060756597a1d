/- Plain: the values of the chapter's examples. -/
import Derived.Test.YtfcialleekfjmaaFlPart
namespace Go.Proofs.Ytfcialleekfjmaa.Fl
open Go.RowKit K At Wd
set_option linter.unusedVariables false
set_option linter.unusedSimpArgs false

def pairT : Tm := ttup [tsym ⟨#[97]⟩, tnum 1]
def consT : Tm := tcons (tnum 1) tnil
def pairL : List Int := [23, 42, 2, 17]
theorem snd_pair : sndL (subs pairT) = true := by
  unfold pairT ttup tsym tnum
  simp [subs_eq, subsL_cons, subsL_nil, sndL, soundB_mk]
  decide
theorem wds_pair : wds pairT = 4 := by
  unfold pairT ttup tsym tnum
  simp [wds_mk, wdsL_cons, wdsL_nil, ownN, hasB]
theorem chk_pair : chk pairT = 0 := by rw [chk_eq, if_pos snd_pair, wds_pair]; rfl
theorem nums_pair : nums pairT [] = (true, [⟨#[97]⟩]) := by
  unfold pairT ttup tsym tnum
  simp only [nums_mk, numsL_cons, numsL_nil]
  rfl
theorem flE_pair : flE [] pairT = 0 := by unfold flE; rw [if_pos chk_pair, nums_pair]; rfl
theorem flL_pair : flL [] pairT = [⟨#[97]⟩] := by unfold flL; rw [if_pos chk_pair, nums_pair]
theorem flat_pair : Fl.flat (ix [⟨#[97]⟩]) pairT = pairL := by
  unfold Fl.flat pairT ttup tsym tnum
  simp only [ownW_mk, lay_mk, layP_cons, layP_nil]
  rfl
theorem flW_pair : flW [] pairT = pairL := by unfold flW; rw [if_pos flE_pair, nums_pair]; exact flat_pair
theorem rdF_pair : rdF [⟨#[97]⟩] pairL = some pairT := by rfl
theorem rdE_pair : rdE [⟨#[97]⟩] pairL = 0 := by unfold rdE; rw [if_neg (by decide), rdF_pair]; rfl
/-! FlatKnown's further values. -/
theorem chk_num5 : chk (tnum 5) = 0 := by
  rw [chk_eq]
  unfold tnum
  rw [show sndL (subs (.mk 1 5 .empty [])) = true from by simp [subs_eq, subsL_nil, sndL, soundB_mk]; decide, wds_mk]
  rfl
theorem nums_num5 : nums (tnum 5) [] = (true, []) := by unfold tnum; rw [nums_mk, if_neg (by decide), numsL_nil]
theorem flE_num5 : flE [] (tnum 5) = 0 := by unfold flE; rw [if_pos chk_num5, nums_num5]; rfl
theorem flL_num5 : flL [] (tnum 5) = [] := by unfold flL; rw [if_pos chk_num5, nums_num5]
theorem flW_num5 : flW [] (tnum 5) = [81] := by
  unfold flW
  rw [if_pos flE_num5, nums_num5]
  unfold Fl.flat tnum
  simp only [ownW_mk, lay_mk]
  rfl
theorem snd_cons : sndL (subs consT) = true := by
  unfold consT tcons tnum tnil
  simp [subs_eq, subsL_cons, subsL_nil, sndL, soundB_mk]
  decide
theorem wds_cons : wds consT = 3 := by
  unfold consT tcons tnum tnil
  simp [wds_mk, wdsL_cons, wdsL_nil, ownN, hasB]
theorem chk_cons : chk consT = 0 := by rw [chk_eq, if_pos snd_cons, wds_cons]; rfl
theorem nums_cons (L : List ByteArray) : nums consT L = (true, L) := by
  unfold consT tcons tnum tnil
  simp [nums_mk, numsL_cons, numsL_nil]
theorem flE_cons (L : List ByteArray) : flE L consT = 0 := by unfold flE; rw [if_pos chk_cons, nums_cons]; rfl
theorem flL_cons (L : List ByteArray) : flL L consT = L := by unfold flL; rw [if_pos chk_cons, nums_cons]
theorem flW_cons (L : List ByteArray) : flW L consT = [25, 17, 8] := by
  unfold flW
  rw [if_pos (flE_cons L), nums_cons]
  unfold Fl.flat consT tcons tnum tnil
  simp only [ownW_mk, lay_mk, layP_cons, layP_nil]
  rfl
theorem rdE_short (L : List ByteArray) : rdE [⟨#[97]⟩] [23, 42, 2] = 4 := rdE_no (by decide) (by rfl)
theorem rdE_over : rdE [⟨#[97]⟩] [25, 17, 8, 8] = 4 := rdE_no (by decide) (by rfl)
theorem snd_a : sndL (subs (tsym ⟨#[97]⟩)) = true := by
  unfold tsym
  simp [subs_eq, subsL_cons, subsL_nil, sndL, soundB_mk]
  decide
theorem chk_a : chk (tsym ⟨#[97]⟩) = 0 := by rw [chk_eq, if_pos snd_a]; unfold tsym; rw [wds_mk]; rfl
theorem partO_1 : partO [⟨#[97]⟩] pairL 1 = some (tsym ⟨#[97]⟩) := by unfold partO; rw [rdF_pair]; rfl
theorem partO_3 : partO [⟨#[97]⟩] pairL 3 = none := by unfold partO; rw [rdF_pair]; rfl
theorem nums_a : nums (tsym ⟨#[97]⟩) [⟨#[97]⟩] = (true, [⟨#[97]⟩]) := by unfold tsym; rw [nums_mk, if_pos rfl]; rfl
theorem flE_a : flE [⟨#[97]⟩] (tsym ⟨#[97]⟩) = 0 := by unfold flE; rw [if_pos chk_a, nums_a]; rfl
theorem partE_1 : partE [⟨#[97]⟩] pairL 1 = 0 := by unfold partE; rw [if_pos rdE_pair, partO_1]; exact flE_a
theorem partE_3 : partE [⟨#[97]⟩] pairL 3 = 2 := by unfold partE; rw [if_pos rdE_pair, partO_3]
theorem partW_1 : partW [⟨#[97]⟩] pairL 1 = [2] := by
  unfold partW
  rw [if_pos rdE_pair, partO_1]
  show flW [⟨#[97]⟩] (tsym ⟨#[97]⟩) = [2]
  unfold flW
  rw [if_pos flE_a, nums_a]
  unfold Fl.flat tsym
  simp only [ownW_mk, lay_mk]
  rfl
end Go.Proofs.Ytfcialleekfjmaa.Fl
