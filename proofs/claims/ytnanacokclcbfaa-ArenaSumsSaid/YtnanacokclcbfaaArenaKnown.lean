/- The law ArenaKnown returns true: the chapter's examples are answered as it says. -/
import Derived.Test.YtnanacokclcbfaaLaw08b
namespace Go.Proofs.Ytnanacokclcbfaa.ArenaKnown
open Go.RowKit K Ar
open Go.ChangeShapes Go.WideShapes Go.ChangeAt
set_option linter.unusedVariables false
set_option linter.unusedSimpArgs false

def zs (m : Nat) : List Int := List.replicate m 0
theorem lit1 (w : World) : (Instr.makeSlice 32 (.int .i64 1) (.int .i64 1)).run Try.prog w = .ok (.slice (some ⟨w.heap.size, 0, none⟩) 1 1) (w.alloc (.cells (madeCells #[Value.int .u64 0] 1) 68)) := make_eq 1 (by omega) 1 rfl w
theorem lit2 (w : World) : (Instr.makeSlice 32 (.int .i64 2) (.int .i64 2)).run Try.prog w = .ok (.slice (some ⟨w.heap.size, 0, none⟩) 2 2) (w.alloc (.cells (madeCells #[Value.int .u64 0] 2) 68)) := make_eq 2 (by omega) 2 rfl w
theorem lit3 (w : World) : (Instr.makeSlice 32 (.int .i64 3) (.int .i64 3)).run Try.prog w = .ok (.slice (some ⟨w.heap.size, 0, none⟩) 3 3) (w.alloc (.cells (madeCells #[Value.int .u64 0] 3) 68)) := make_eq 3 (by omega) 3 rfl w

set_option maxRecDepth 100000 in
set_option maxHeartbeats 8000000 in
theorem walk (w : World) : Calls Try.prog 4 #[] w fun e w' => e = .returned (.bool true) ∧ Below w.heap.size w w' := by
  have m1 := lit1
  have m2 := lit2
  have m3 := lit3
  have u1 : used [] + rnd 5 ≤ 10 := by decide
  have u2 : used ([] ++ [some z5]) + rnd 3 ≤ 10 := by decide
  have u3 : used [none, some (zs 3)] + rnd 6 ≤ 10 := by decide
  have HR6 := Lib.hid (fun w => round_lit 6 6 6 6 rfl rfl (by decide) (by omega) (by omega) w)
  have HR7 := Lib.hid (fun w => round_lit 7 8 7 8 rfl rfl (by decide) (by omega) (by omega) w)
  have HR13 := Lib.hid (fun w => round_lit 13 16 13 16 rfl rfl (by decide) (by omega) (by omega) w)
  have HR0 := Lib.hid (fun w => round_zero 0 (by unfold maxLen; omega) (by omega) w)
  have U1 := Lib.hid u1; have U2 := Lib.hid u2; have U3 := Lib.hid u3
  clear u1 u2 u3
  go_enter Try.func4, Try.ntmps4
  go_wp2_with (first | (go_at_call 12; refine (new_yes 10 (by omega) (by omega) _).mono ?_; rintro e w1 ⟨g, rfl, hT, hb⟩; have HS := Lib.hid (St.made (Below.refl _ _) (Nat.le_refl _) hT hb); clear hT hb) | fail)
  refine (takes_lit HS.out 5 5 1 rfl rfl (by omega) (by omega) U1.out (by omega)).mono ?_
  rintro e w3 ⟨rfl, h3⟩
  have HS3 := Lib.hid h3
  clear h3
  go_wp2_with fail
  refine (takes_lit HS3.out 3 3 2 rfl rfl (by omega) (by omega) U2.out (by omega)).mono ?_
  rintro e w4 ⟨rfl, h4⟩
  have HS4 := Lib.hid (show St w.heap.size w g 10 2 [some (zs 5), some (zs 3)] w4 from h4)
  clear h4
  go_wp2_with fail
  refine (take_made HS4.out 1 (by unfold maxLen; omega) (by omega) 0 11 [some (zs 5), some (zs 3)] (by decide) (by decide) (by decide)).mono ?_
  rintro e w5 ⟨rfl, h5⟩
  have HS5 := Lib.hid h5
  clear h5
  go_wp2_with fail
  refine (drop_st HS5.out 1 (by decide) 0 [none, some (zs 3)] (by decide) (by decide)).mono ?_
  rintro e w6 ⟨rfl, h6⟩
  have HS6 := Lib.hid h6
  clear h6
  go_wp2_with fail
  refine (takes_lit HS6.out 6 6 3 rfl rfl (by omega) (by omega) U3.out (by omega)).mono ?_
  rintro e w7 ⟨rfl, h7⟩
  have HS7 := Lib.hid (show St w.heap.size w g 10 4 [none, some (zs 3), some (zs 6)] w7 from h7)
  clear h7
  go_wp2_with fail
  refine (blocks_st HS7.out (by omega)).mono ?_
  rintro e w8 ⟨v8, rfl, hR8, hb8⟩
  obtain ⟨A8, c8, rfl, _, _⟩ := ownsRow_form hR8
  have h23 : blks [none, some (zs 3), some (zs 6)] = [2, 3] := by decide
  rw [h23] at hR8
  have hl : (blks [none, some (zs 3), some (zs 6)]).length = 2 := by rw [h23]; rfl
  rw [hl]
  have HQ := Lib.hid (sameInts_yes A8 (some ⟨w8.heap.size, 0, none⟩) c8 2 _ _ [2, 3] (w8.alloc (.cells #[.int .i64 2, .int .i64 3] 3)) ((Reads.of_own hR8).alloc (Nat.le_refl _) _) (pair_reads w8 2 3) (by simp))
  have HS8 := Lib.hid ((HS7.out.grown hb8).grown ((Below.refl _ _).alloc (Nat.le_refl _) (.cells #[.int .i64 2, .int .i64 3] 3)))
  clear hR8 hb8 h23 hl
  go_wp2_with (first | (go_at_call 16; refine HQ.out.mono ?_; rintro e w9 ⟨rfl, k9, rfl⟩) | fail)
  have HS9 := Lib.hid (HS8.out.drewN k9)
  refine (get_st HS9.out 1 (by decide) 6 [] (by decide) (by decide)).mono ?_
  rintro e w10 ⟨v10, rfl, _, hb10⟩
  have HS10 := Lib.hid (HS9.out.grown hb10)
  clear hb10
  go_wp2_with fail
  refine (set_made HS10.out 2 (by decide) 2 (by unfold maxLen; omega) (by omega) 2 [none, some (zs 3), some (zs 6)] (by decide) (by decide)).mono ?_
  rintro e w11 ⟨rfl, h11⟩
  have HS11 := Lib.hid h11
  clear h11
  go_wp2_with fail
  refine (set_made HS11.out 2 (by decide) 3 (by unfold maxLen; omega) (by omega) 0 [none, some (zs 3), some (zs 6)] (by decide) (by decide)).mono ?_
  rintro e w12 ⟨rfl, h12⟩
  have HS12 := Lib.hid h12
  clear h12
  go_wp2_with fail
  refine (awake_any _).mono ?_
  rintro e w13 ⟨rfl, hb13⟩
  have hbb := (HS12.out.grown hb13).1
  clear hb13
  go_wp2_with fail
  refine (HR6.out _).mono ?_
  rintro e w14 ⟨rfl, rfl⟩
  go_wp2_with fail
  refine (HR7.out _).mono ?_
  rintro e w14 ⟨rfl, rfl⟩
  go_wp2_with fail
  refine (HR13.out _).mono ?_
  rintro e w14 ⟨rfl, rfl⟩
  go_wp2_with fail
  refine (HR0.out _).mono ?_
  rintro e w14 ⟨rfl, rfl⟩
  go_wp2_with fail
  go_ret
  exact ⟨ret1_b rfl, hbb⟩
theorem contract (W : World) : Calls Try.prog 4 #[] W fun e w' => e = .returned (.bool true) ∧ Below W.heap.size W w' := walk W

theorem own : ownKnob Try.prog.godebug = none := by kernel_rfl
theorem laidOut : laidOutB Try.prog = true := by kernel_rfl
theorem readable : ∀ t ∈ Try.f4.params.toList, Try.prog.readableRec t = true ∧ t < Try.prog.types.size := by
  rw [show Try.f4.params = #[] from Try.params4]
  intro t h; simp at h
set_option maxRecDepth 100000 in
theorem lifted (os : Os) (started : os.Started) (H : Type) (enc : TypeId × Value → H) :
    ReturnsInHanded {} Try.checked os 4 .any (Rows.arenaKnownSpec.pre6 enc Try.prog Try.f4 Rows.arenaKnownRow.domain false) (Rows.arenaKnownSpec.post enc Try.prog Try.f4 false true false false) := by
  refine K.law_lift (C := Try.checked) (b := 4) own started (by kernel_rfl) Try.func4
    (ChangeSpec.witness6 (enc := enc) (C := Try.checked) false ⟨#[], #[], []⟩ 8 (by kernel_rfl) (by kernel_rfl) (by kernel_rfl) (by kernel_rfl)) laidOut readable rfl rfl Try.underlying4 ?_ ?_
  · intro ds hds
    rw [show Try.f4.params = #[] from Try.params4] at hds
    match ds, hds with
    | [], _ => rfl
  · intro W base args ds p hval hA hlt hsz
    rw [show Try.checked.prog = Try.prog from rfl] at hval hA hsz
    rw [show Try.f4.params = #[] from Try.params4] at hA hval hsz
    obtain ⟨hargs, rfl, rfl⟩ := trodAll_nil hA
    obtain rfl : args = #[] := by cases args; simp_all
    exact contract W

theorem over : Rows.arenaKnownRow.holds Try.pinned (OpenSpec.ofChange Rows.arenaKnownSpec) :=
  OpenClaim.holds_of_wide 4 Try.f4 rfl rfl rfl rfl rfl rfl rfl ⟨rfl, rfl, rfl, rfl, rfl⟩ rfl rfl rfl rfl rfl (by kernel_rfl) Try.func4 (by kernel_rfl)
    (of_decide_eq_true (by kernel_rfl)) (by unfold Func.isWrapper; rw [if_neg (of_decide_eq_false (by kernel_rfl))]; exact ⟨rfl, rfl⟩)
    (fun os started H enc _ => lifted os started H enc)

/-- THE STATEMENT -/
theorem proved : Rows.ArenaKnownSaid := over
#print axioms proved

end Go.Proofs.Ytnanacokclcbfaa.ArenaKnown
