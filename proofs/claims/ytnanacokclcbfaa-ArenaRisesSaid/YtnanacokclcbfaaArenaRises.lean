/- The law ArenaRises returns true for every input: classes rise, and waste little. -/
import Derived.Test.YtnanacokclcbfaaArenaKnown
import Derived.Test.YtnanacokclcbfaaRises
namespace Go.Proofs.Ytnanacokclcbfaa.ArenaRises
open Go.RowKit K Ar
open Go.ChangeShapes Go.WideShapes Go.ChangeAt
set_option linter.unusedVariables false
set_option linter.unusedSimpArgs false

set_option maxRecDepth 100000 in
set_option maxHeartbeats 8000000 in
theorem walk (n m : Int) (w : World) :
    Calls Try.prog 5 #[.int .i64 n, .int .i64 m] w fun e w' => e = .returned (.bool true) ∧ Below w.heap.size w w' := by
  by_cases h1 : n < 1
  · go_enter Try.func5, Try.ntmps5
    go_wp2_with (go_at_call 4; refine (ArenaKnown.walk _).mono ?_; rintro e w1 ⟨rfl, hb⟩)
    go_ret
    exact ⟨ret1_b rfl, hb⟩
  · by_cases h2 : 16777216 < n
    · go_enter Try.func5, Try.ntmps5
      go_wp2_with (go_at_call 4; refine (ArenaKnown.walk _).mono ?_; rintro e w1 ⟨rfl, hb⟩)
      go_ret
      exact ⟨ret1_b rfl, hb⟩
    · by_cases h3 : m < 1
      · go_enter Try.func5, Try.ntmps5
        go_wp2_with (go_at_call 4; refine (ArenaKnown.walk _).mono ?_; rintro e w1 ⟨rfl, hb⟩)
        go_ret
        exact ⟨ret1_b rfl, hb⟩
      · by_cases h4 : 16777216 < m
        · go_enter Try.func5, Try.ntmps5
          go_wp2_with (go_at_call 4; refine (ArenaKnown.walk _).mono ?_; rintro e w1 ⟨rfl, hb⟩)
          go_ret
          exact ⟨ret1_b rfl, hb⟩
        · obtain ⟨a, ha⟩ : ∃ a : Nat, n = (a : Int) := ⟨n.toNat, by omega⟩
          obtain ⟨b, hb⟩ : ∃ b : Nat, m = (b : Int) := ⟨m.toNat, by omega⟩
          have a1 : 1 ≤ a := by omega
          have a2 : a ≤ 16777216 := by omega
          have b1 : 1 ≤ b := by omega
          have b2 : b ≤ 16777216 := by omega
          obtain ⟨c, hc⟩ : ∃ c : Int, (rnd a : Int) = c := ⟨_, rfl⟩
          obtain ⟨d, hd⟩ : ∃ d : Int, (rnd b : Int) = d := ⟨_, rfl⟩
          have hR1 : ∀ w, Calls Try.prog 9 #[.int .i64 n] w fun e w' => e = .returned (.int .i64 c) ∧ w = w' := fun w => by rw [ha, ← hc]; exact round_nat a a1 a2 w
          have hR2 : ∀ w, Calls Try.prog 9 #[.int .i64 m] w fun e w' => e = .returned (.int .i64 d) ∧ w = w' := fun w => by rw [hb, ← hd]; exact round_nat b b1 b2 w
          have hR3 : ∀ w, Calls Try.prog 9 #[.int .i64 c] w fun e w' => e = .returned (.int .i64 c) ∧ w = w' := fun w => by
            have h := round_nat (rnd a) (Nat.le_trans a1 (rnd_ge a1 a2)) (rnd_max a1 a2) w
            rw [rnd_self a1 a2, hc] at h
            exact h
          have f1 : n ≤ c := by have := rnd_ge a1 a2; omega
          have f5 : c ≤ 16777216 := by have := rnd_max a1 a2; omega
          have HR1 := Lib.hid hR1; have HR2 := Lib.hid hR2; have HR3 := Lib.hid hR3
          have f6 : m < n ∨ (n ≤ m ∧ c ≤ d) := by
            rcases Nat.lt_or_ge b a with h | h
            · left; omega
            · right
              have := rnd_mono a1 b2 h
              exact ⟨by omega, by omega⟩
          have F6 := Lib.hid f6
          by_cases hn1 : n = 1
          · have hc2 : c = 2 := by
              have : a = 1 := by omega
              rw [← hc, this]
              rfl
            clear hR1 hR2 hR3 hc hd ha hb f6 h1 h2
            rcases F6.out with f7 | ⟨f7, f8⟩
            · subst hn1
              omega
            · subst hn1 hc2
              go_enter Try.func5, Try.ntmps5
              go_wp2_with (first | (go_at_call 4; refine (ArenaKnown.walk _).mono ?_; rintro e w1 ⟨rfl, hb⟩) | fail)
              refine (HR1.out _).mono ?_
              rintro e w2 ⟨rfl, rfl⟩
              go_wp2_with fail
              refine (HR2.out _).mono ?_
              rintro e w2 ⟨rfl, rfl⟩
              go_wp2_with fail
              refine (HR3.out _).mono ?_
              rintro e w2 ⟨rfl, rfl⟩
              go_wp2_with fail
              go_ret
              exact ⟨ret1_b rfl, hb⟩
          · have hne : (n == 1) = false := by simp; omega
            have f2 : 1 < n := by omega
            have f3 : 2 * c < 3 * n := by have := rnd_waste (n := a) (by omega) a2; omega
            have f9 : n ≤ 16777216 := by omega
            have f10 : 1 ≤ m := by omega
            have f11 : m ≤ 16777216 := by omega
            clear hR1 hR2 hR3 hc hd ha hb f6 h1 h2 h3 h4 hn1
            rcases F6.out with f7 | ⟨f7, f8⟩
            · go_enter Try.func5, Try.ntmps5
              go_wp2_with (first | (go_at_call 4; refine (ArenaKnown.walk _).mono ?_; rintro e w1 ⟨rfl, hb⟩) | fail)
              refine (HR1.out _).mono ?_
              rintro e w2 ⟨rfl, rfl⟩
              go_wp2_with fail
              refine (HR2.out _).mono ?_
              rintro e w2 ⟨rfl, rfl⟩
              go_wp2_with fail
              refine (HR3.out _).mono ?_
              rintro e w2 ⟨rfl, rfl⟩
              go_wp2_with fail
              go_ret
              exact ⟨ret1_b rfl, hb⟩
            · go_enter Try.func5, Try.ntmps5
              go_wp2_with (first | (go_at_call 4; refine (ArenaKnown.walk _).mono ?_; rintro e w1 ⟨rfl, hb⟩) | fail)
              refine (HR1.out _).mono ?_
              rintro e w2 ⟨rfl, rfl⟩
              go_wp2_with fail
              refine (HR2.out _).mono ?_
              rintro e w2 ⟨rfl, rfl⟩
              go_wp2_with fail
              refine (HR3.out _).mono ?_
              rintro e w2 ⟨rfl, rfl⟩
              go_wp2_with fail
              go_ret
              exact ⟨ret1_b rfl, hb⟩

theorem contract {H : Type} {enc : TypeId × Value → H} (W : World) {base : Nat} {r : Reach} {b : Nat} {sp : Nat → Bool} {hd : Bool} {v0 v1 : Value} {d0 d1 : DataW H} {p0 p1 : List MemPlace}
    (o0 : Value.okWide Try.prog W r b 3 v0) (h0 : DataW.Trod enc Try.prog W base sp hd 3 v0 d0 p0) (o1 : Value.okWide Try.prog W r b 3 v1) (h1 : DataW.Trod enc Try.prog W base sp hd 3 v1 d1 p1) {Q R : Prop} (_ : Q) (_ : R) :
    Calls Try.prog 5 #[v0, v1] W fun e w' => e = .returned (.bool true) ∧ Below W.heap.size W w' := by
  obtain ⟨a0, rfl, _, _, w0⟩ := open_int Try.underlying3 o0 h0
  obtain ⟨a1, rfl, _, _, w1⟩ := open_int Try.underlying3 o1 h1
  exact walk a0 a1 W

theorem own : ownKnob Try.prog.godebug = none := by kernel_rfl
theorem laidOut : laidOutB Try.prog = true := by kernel_rfl
theorem readable : ∀ t ∈ Try.f5.params.toList, Try.prog.readableRec t = true ∧ t < Try.prog.types.size := by
  rw [show Try.f5.params = #[3, 3] from Try.params5]
  intro t h
  simp only [List.mem_cons, List.not_mem_nil, or_false] at h
  rcases h with rfl | rfl
  · exact ⟨by kernel_rfl, of_decide_eq_true (by kernel_rfl)⟩
  · exact ⟨by kernel_rfl, of_decide_eq_true (by kernel_rfl)⟩
set_option maxRecDepth 100000 in
theorem lifted (os : Os) (started : os.Started) (H : Type) (enc : TypeId × Value → H) :
    ReturnsInHanded {} Try.checked os 5 .any (Rows.arenaRisesSpec.pre6 enc Try.prog Try.f5 Rows.arenaRisesRow.domain false) (Rows.arenaRisesSpec.post enc Try.prog Try.f5 false true false false) := by
  refine K.law_lift (C := Try.checked) (b := 4) own started (by kernel_rfl) Try.func5
    (ChangeSpec.witness6 (enc := enc) (C := Try.checked) false ⟨#[], #[.int .i64 0, .int .i64 0], []⟩ 8 (by kernel_rfl) (by kernel_rfl) (by kernel_rfl) (by kernel_rfl)) laidOut readable rfl rfl Try.underlying4 ?_ ?_
  · intro ds hds
    rw [show Try.f5.params = #[3, 3] from Try.params5] at hds
    match ds, hds with
    | [d0, d1], _ => rfl
  · intro W base args ds p hval hA hlt hsz
    rw [show Try.checked.prog = Try.prog from rfl] at hval hA hsz
    rw [show Try.f5.params = #[3, 3] from Try.params5] at hA hval hsz
    obtain ⟨v0, vs0, d0, ds0, p0, q0, hargs, rfl, rfl, h0, r0⟩ := trodAll_cons hA
    obtain ⟨v1, vs1, d1, ds1, p1, q1, rfl, rfl, rfl, h1, r1⟩ := trodAll_cons r0
    obtain ⟨rfl, rfl, rfl⟩ := trodAll_nil r1
    obtain rfl : args = #[v0, v1] := by cases args; simp_all
    exact contract W (hval 0 3 v0 rfl rfl) h0 (hval 1 3 v1 rfl rfl) h1 (fun x hx => hlt x hx) hsz

theorem over : Rows.arenaRisesRow.holds Try.pinned (OpenSpec.ofChange Rows.arenaRisesSpec) :=
  OpenClaim.holds_of_wide 5 Try.f5 rfl rfl rfl rfl rfl rfl rfl ⟨rfl, rfl, rfl, rfl, rfl⟩ rfl rfl rfl rfl rfl (by kernel_rfl) Try.func5 (by kernel_rfl)
    (of_decide_eq_true (by kernel_rfl)) (by unfold Func.isWrapper; rw [if_neg (of_decide_eq_false (by kernel_rfl))]; exact ⟨rfl, rfl⟩)
    (fun os started H enc _ => lifted os started H enc)

/-- THE STATEMENT -/
theorem proved : Rows.ArenaRisesSaid := over
#print axioms proved

end Go.Proofs.Ytnanacokclcbfaa.ArenaRises
