/- The law WordKnown returns true: the chapter's examples are answered as it says. -/
import Derived.Test.YtagenacmbmdkjaaLaw01
namespace Go.Proofs.Ytagenacmbmdkjaa.WordKnown
open Go.RowKit K Wd
open Go.ChangeShapes Go.WideShapes Go.ChangeAt
set_option linter.unusedVariables false
set_option linter.unusedSimpArgs false

set_option maxHeartbeats 4000000 in
theorem walk (w : World) :
    Calls Try.prog 5 #[] w fun e w' => e = .returned (.bool true) ∧ Below w.heap.size w w' := by
  have a1 : packB 8 0 8 0 = true := by decide +kernel
  have a2 : unB 24 0 0 4 = true := by decide +kernel
  have a3 : unB 12 0 0 4 = true := by decide +kernel
  have a4 : packB 1 576460752303423488 0 5 = true := by decide +kernel
  have a5 : packB 12 0 0 2 = true := by decide +kernel
  have a6 : packB 8 1 0 5 = true := by decide +kernel
  have a7 : packB 11 65 0 5 = true := by decide +kernel
  have a8 : boxd 7 = true := by decide +kernel
  have a9 : boxd 81 = false := by decide +kernel
  have hb := Below.refl w.heap.size w
  go_enter Try.func5, Try.ntmps5
  go_wp2_with (first | (go_at_call 16; refine (packs_any _ _ _ _ (by decide +kernel) (by decide +kernel) _).mono ?_; rintro e w1 ⟨rfl, hb1⟩; replace hb := hb.trans (hb1.mono hb.size); clear hb1) | (go_at_call 17; refine (unpacks_any _ _ _ _ (by omega) (by omega) _).mono ?_; rintro e w1 ⟨rfl, hb1⟩; replace hb := hb.trans (hb1.mono hb.size); clear hb1) | (go_at_call 13; refine (kind_any _ (by omega) (by omega) _).mono ?_; rintro e w2 ⟨rfl, rfl⟩) | (go_at_call 14; refine (boxed_any _ (by omega) (by omega) _).mono ?_; rintro e w2 ⟨rfl, rfl⟩) | (go_at_call 10; refine (awake_any _).mono ?_; rintro e w1 ⟨rfl, hb1⟩; replace hb := hb.trans (hb1.mono hb.size); clear hb1))
  go_ret
  exact ⟨ret1_b rfl, hb⟩

theorem contract (W : World) : Calls Try.prog 5 #[] W fun e w' => e = .returned (.bool true) ∧ Below W.heap.size W w' := walk W

theorem own : ownKnob Try.prog.godebug = none := by kernel_rfl
theorem laidOut : laidOutB Try.prog = true := by kernel_rfl
theorem readable : ∀ t ∈ Try.f5.params.toList, Try.prog.readableRec t = true ∧ t < Try.prog.types.size := by
  rw [show Try.f5.params = #[] from Try.params5]
  intro t h; simp at h
set_option maxRecDepth 100000 in
theorem lifted (os : Os) (started : os.Started) (H : Type) (enc : TypeId × Value → H) :
    ReturnsInHanded {} Try.checked os 5 .any (Rows.wordKnownSpec.pre6 enc Try.prog Try.f5 Rows.wordKnownRow.domain false) (Rows.wordKnownSpec.post enc Try.prog Try.f5 false true false false) := by
  refine K.law_lift (C := Try.checked) (b := 4) own started (by kernel_rfl) Try.func5
    (ChangeSpec.witness6 (enc := enc) (C := Try.checked) false ⟨#[], #[], []⟩ 8 (by kernel_rfl) (by kernel_rfl) (by kernel_rfl) (by kernel_rfl)) laidOut readable rfl rfl Try.underlying4 ?_ ?_
  · intro ds hds
    rw [show Try.f5.params = #[] from Try.params5] at hds
    match ds, hds with
    | [], _ => rfl
  · intro W base args ds p hval hA hlt hsz
    rw [show Try.checked.prog = Try.prog from rfl] at hval hA hsz
    rw [show Try.f5.params = #[] from Try.params5] at hA hval hsz
    obtain ⟨hargs, rfl, rfl⟩ := trodAll_nil hA
    obtain rfl : args = #[] := by cases args; simp_all
    exact contract W

theorem over : Rows.wordKnownRow.holds Try.pinned (OpenSpec.ofChange Rows.wordKnownSpec) :=
  OpenClaim.holds_of_wide 5 Try.f5 rfl rfl rfl rfl rfl rfl rfl ⟨rfl, rfl, rfl, rfl, rfl⟩ rfl rfl rfl rfl rfl (by kernel_rfl) Try.func5 (by kernel_rfl)
    (of_decide_eq_true (by kernel_rfl)) (by unfold Func.isWrapper; rw [if_neg (of_decide_eq_false (by kernel_rfl))]; exact ⟨rfl, rfl⟩)
    (fun os started H enc _ => lifted os started H enc)

/-- THE STATEMENT -/
theorem proved : Rows.WordKnownSaid := over
#print axioms proved
end Go.Proofs.Ytagenacmbmdkjaa.WordKnown
