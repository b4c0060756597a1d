/- The law NeedKnown returns true: the chapter's examples are answered as it says. -/
import Derived.Test.YtofinjkgbbdbcaaLaw13
namespace Go.Proofs.Ytofinjkgbbdbcaa.NeedKnown
open Go.RowKit K Ar Nd
open Go.ChangeShapes Go.WideShapes Go.ChangeAt
set_option linter.unusedVariables false
set_option linter.unusedSimpArgs false

theorem s1 : sumsN 1 16 [] = 32 ∧ sumsE 1 16 [] = 0 := by decide
theorem s2 : sumsN 2 0 [pairT] = 26 ∧ sumsE 2 0 [pairT] = 0 := by
  unfold sumsN sumsE sumN sumE
  rw [pair_chk, pair_wds]
  decide
theorem s3 : sumsN 0 0 [] = 0 ∧ sumsE 0 0 [] = 2 := by decide
set_option maxRecDepth 100000 in
set_option maxHeartbeats 4000000 in
theorem known (w : World) : Calls Try.prog 5 #[] w fun e w' => e = .returned (.bool true) ∧ Below w.heap.size w w' := by
  have HP := Lib.hid (fun w => pair_any w)
  have HS1 := Lib.hid (fun w => sum_any 1 16 [] none 0 w (TsAt.nil _ _ _) (by rw [nodesL_nil]; omega))
  have HS2 := Lib.hid (fun A w h => sum_any 2 0 [pairT] A 1 w h (by rw [nodesL_cons, nodesL_nil, pair_nodes]; omega))
  have HS3 := Lib.hid (fun w => sum_any 0 0 [] none 0 w (TsAt.nil _ _ _) (by rw [nodesL_nil]; omega))
  rw [s1.1, s1.2] at HS1
  rw [s2.1, s2.2] at HS2
  rw [s3.1, s3.2] at HS3
  have HA := Lib.hid (fun w => awake_any w)
  have HN3 := Lib.hid (fun w => (show nodeK 3 = 4 from rfl) ▸ node_any 3 w)
  have HN0 := Lib.hid (fun w => (show nodeK 0 = 0 from rfl) ▸ node_any 0 w)
  have HK1 := Lib.hid (fun w => (show bktN 1 = 16 from rfl) ▸ bkt_any 1 w)
  have HK17 := Lib.hid (fun w => (show bktN 17 = 32 from rfl) ▸ bkt_any 17 w)
  have HK0 := Lib.hid (fun w => (show bktN 0 = 0 from rfl) ▸ bkt_any 0 w)
  have HU2 := Lib.hid (fun w => puts_any 1 16 31 8 w put2.1 put2.2)
  have HU3 := Lib.hid (fun w => puts_any 2 0 9 10 w put3.1 put3.2)
  go_enter Try.func5, Try.ntmps5
  go_wp2_with fail
  refine (HS1.out _).mono ?_
  rintro e w1 ⟨rfl, hb1⟩
  have HB1 := Lib.hid hb1
  clear hb1
  go_wp2_with fail
  refine (HP.out _).mono ?_
  rintro e w2 ⟨v, rfl, ht, hb2⟩
  have HB2 := Lib.hid (bnext HB1.out hb2)
  obtain ⟨A, c', rfl, _⟩ := ht.inv
  dsimp only [tv, pairT, ttup, Tm.k_mk, Tm.n_mk, Tm.s_mk, Tm.l_mk] at ht ⊢
  have HT2 := Lib.hid (show TsA (w2.alloc (.cells #[.int .i64 7, .int .i64 0, .string .empty, .slice A 2 c'] 24)) (some ⟨w2.heap.size, 0, none⟩) [pairT] from
    (lit_rowF (vs := [_]) (.cons ht .nil) (fun b h => h) (by simp [maxLen]) _ rfl).mono fun b hb => by rw [World.size_alloc]; rcases hb with hb | hb <;> omega)
  clear ht hb2
  go_wp2_with fail
  refine (HS2.out _ _ HT2.out).mono ?_
  rintro e w3 ⟨rfl, hb3⟩
  have HB3 := Lib.hid (bnext (ballocs HB2.out _) hb3)
  clear hb3
  go_wp2_with fail
  refine (HS3.out _).mono ?_
  rintro e w4 ⟨rfl, hb4⟩
  have HB4 := Lib.hid (bnext HB3.out hb4)
  clear hb4
  go_wp2_with fail
  refine (HA.out _).mono ?_
  rintro e w5 ⟨rfl, hb5⟩
  have HB5 := Lib.hid (bnext HB4.out hb5)
  clear hb5
  go_wp2_with fail
  refine (HN3.out _).mono ?_
  rintro e w6 ⟨rfl, hb6⟩
  have HB6 := Lib.hid (bnext HB5.out hb6)
  clear hb6
  go_wp2_with fail
  refine (HN0.out _).mono ?_
  rintro e w7 ⟨rfl, hb7⟩
  have HB7 := Lib.hid (bnext HB6.out hb7)
  clear hb7
  go_wp2_with fail
  refine (HK1.out _).mono ?_
  rintro e w8 ⟨rfl, rfl⟩
  go_wp2_with fail
  refine (HK17.out _).mono ?_
  rintro e w8 ⟨rfl, rfl⟩
  go_wp2_with fail
  refine (HK0.out _).mono ?_
  rintro e w8 ⟨rfl, rfl⟩
  go_wp2_with fail
  refine (HU2.out _).mono ?_
  rintro e w8 ⟨rfl, hb8⟩
  have HB8 := Lib.hid (bnext HB7.out hb8)
  clear hb8
  go_wp2_with fail
  refine (HU3.out _).mono ?_
  rintro e w9 ⟨rfl, hb9⟩
  have HB9 := Lib.hid (bnext HB8.out hb9)
  clear hb9
  go_wp2_with fail
  go_ret
  exact ⟨rfl, HB9.out⟩

theorem contract (W : World) : Calls Try.prog 5 #[] W fun e w' => e = .returned (.bool true) ∧ Below W.heap.size W w' := known W

theorem own : ownKnob Try.prog.godebug = none := by kernel_rfl
theorem laidOut : laidOutB Try.prog = true := by kernel_rfl
theorem readable : ∀ t ∈ Try.f5.params.toList, Try.prog.readableRec t = true ∧ t < Try.prog.types.size := by
  rw [show Try.f5.params = #[] from Try.params5]
  intro t h; simp at h
set_option maxRecDepth 100000 in
theorem lifted (os : Os) (started : os.Started) (H : Type) (enc : TypeId × Value → H) :
    ReturnsInHanded {} Try.checked os 5 .any (Rows.needKnownSpec.pre6 enc Try.prog Try.f5 Rows.needKnownRow.domain false) (Rows.needKnownSpec.post enc Try.prog Try.f5 false true false false) := by
  refine K.law_lift (C := Try.checked) (b := 4) own started (by kernel_rfl) Try.func5
    (ChangeSpec.witness6 (enc := enc) (C := Try.checked) false ⟨#[], #[], []⟩ 8 (by kernel_rfl) (by kernel_rfl) (by kernel_rfl) (by kernel_rfl)) laidOut readable rfl rfl Try.underlying4 ?_ ?_
  · intro ds hds
    rw [show Try.f5.params = #[] from Try.params5] at hds
    match ds, hds with
    | [], _ => rfl
  · intro W base args ds p hval hA hlt hsz
    rw [show Try.checked.prog = Try.prog from rfl] at hval hA hsz
    rw [show Try.f5.params = #[] from Try.params5] at hA hval hsz
    obtain ⟨hargs, rfl, rfl⟩ := trodAll_nil hA
    obtain rfl : args = #[] := by cases args; simp_all
    exact contract W

theorem over : Rows.needKnownRow.holds Try.pinned (OpenSpec.ofChange Rows.needKnownSpec) :=
  OpenClaim.holds_of_wide 5 Try.f5 rfl rfl rfl rfl rfl rfl rfl ⟨rfl, rfl, rfl, rfl, rfl⟩ rfl rfl rfl rfl rfl (by kernel_rfl) Try.func5 (by kernel_rfl)
    (of_decide_eq_true (by kernel_rfl)) (by unfold Func.isWrapper; rw [if_neg (of_decide_eq_false (by kernel_rfl))]; exact ⟨rfl, rfl⟩)
    (fun os started H enc _ => lifted os started H enc)

/-- THE STATEMENT -/
theorem proved : Rows.NeedKnownSaid := over
#print axioms proved
end Go.Proofs.Ytofinjkgbbdbcaa.NeedKnown
