/- The law WordApart returns true for every input: unlike kinds or numbers have unlike words, and words of one kind rise with their numbers, but of an Int. -/
import Derived.Test.YtagenacmbmdkjaaWordKnown
namespace Go.Proofs.Ytagenacmbmdkjaa.WordApart
open Go.RowKit K Wd
open Go.ChangeShapes Go.WideShapes Go.ChangeAt
set_option linter.unusedVariables false
set_option linter.unusedSimpArgs false

theorem inj {k n k' n' : Int} (h : packE k n = 0) (h' : packE k' n' = 0) (e : packW k n = packW k' n') : k = k' ∧ n = n' := by
  obtain ⟨_, b, c⟩ := un_pack h
  obtain ⟨_, b', c'⟩ := un_pack h'
  rw [e] at b c
  exact ⟨b.symm.trans b', c.symm.trans c'⟩
theorem rise {k n m : Int} (h : packE k n = 0) (h' : packE k m = 0) (hk : k ≠ 1) (hl : n < m) : packW k n < packW k m := by
  have g : ∀ x, packE k x = 0 → isK k = true ∧ fits k x = true := by
    intro x hx
    unfold packE at hx
    by_cases a : isK k = true
    · by_cases b : fits k x = true
      · exact ⟨a, b⟩
      · simp [a, b] at hx
    · simp [a] at hx
  have b1 := g n h
  have b2 := g m h'
  have e1 : packW k n = n % 1152921504606846976 * 16 + k := by unfold packW; rw [if_pos b1]
  have e2 : packW k m = m % 1152921504606846976 * 16 + k := by unfold packW; rw [if_pos b2]
  have f1 := b1.2; have f2 := b2.2
  simp only [fits, low, high, if_neg hk, decide_eq_true_eq] at f1 f2
  have hm : mostV k ≤ 137438953536 := by unfold mostV; repeat (first | split | omega)
  rw [e1, e2]
  omega

set_option maxHeartbeats 8000000 in
theorem walk (k n k' m : Int) (hk : (Lit.int .i64 k).wf = true) (hn : (Lit.int .i64 n).wf = true) (hk' : (Lit.int .i64 k').wf = true) (hm : (Lit.int .i64 m).wf = true) (w : World) :
    Calls Try.prog 7 #[.int .i64 k, .int .i64 n, .int .i64 k', .int .i64 m] w fun e w' => e = .returned (.bool true) ∧ Below w.heap.size w w' := by
  have hb := Below.refl w.heap.size w
  by_cases a : packE k n = 0
  · by_cases c : packE k' m = 0
    · by_cases d : k = k'
      · subst d
        by_cases f : n = m
        · subst f
          by_cases g : k = 1
          · subst g
            go_enter Try.func7, Try.ntmps7
            go_wp2_with (first | (go_at_call 5; refine (WordKnown.walk _).mono ?_; rintro e w1 ⟨rfl, hb1⟩; replace hb := hb.trans (hb1.mono hb.size); clear hb1) | (go_at_call 8; refine (pack_any _ _ (by assumption) (by assumption) _).mono ?_; rintro e w1 ⟨rfl, hb1⟩; replace hb := hb.trans (hb1.mono hb.size); clear hb1))
            go_ret
            exact ⟨ret1_b rfl, hb⟩
          · have g' : (k == 1) = false := by simpa using g
            clear g
            go_enter Try.func7, Try.ntmps7
            go_wp2_with (first | (go_at_call 5; refine (WordKnown.walk _).mono ?_; rintro e w1 ⟨rfl, hb1⟩; replace hb := hb.trans (hb1.mono hb.size); clear hb1) | (go_at_call 8; refine (pack_any _ _ (by assumption) (by assumption) _).mono ?_; rintro e w1 ⟨rfl, hb1⟩; replace hb := hb.trans (hb1.mono hb.size); clear hb1))
            go_ret
            exact ⟨ret1_b rfl, hb⟩
        · have i := fun e => f (inj a c e).2
          have i' : (packW k n == packW k m) = false := by simpa using i
          have f' : (n == m) = false := by simpa using f
          by_cases g : k = 1
          · subst g
            clear i f
            go_enter Try.func7, Try.ntmps7
            go_wp2_with (first | (go_at_call 5; refine (WordKnown.walk _).mono ?_; rintro e w1 ⟨rfl, hb1⟩; replace hb := hb.trans (hb1.mono hb.size); clear hb1) | (go_at_call 8; refine (pack_any _ _ (by assumption) (by assumption) _).mono ?_; rintro e w1 ⟨rfl, hb1⟩; replace hb := hb.trans (hb1.mono hb.size); clear hb1))
            go_ret
            exact ⟨ret1_b rfl, hb⟩
          · have g' : (k == 1) = false := by simpa using g
            by_cases h : n < m
            · have r := rise a c g h
              clear i f g
              go_enter Try.func7, Try.ntmps7
              go_wp2_with (first | (go_at_call 5; refine (WordKnown.walk _).mono ?_; rintro e w1 ⟨rfl, hb1⟩; replace hb := hb.trans (hb1.mono hb.size); clear hb1) | (go_at_call 8; refine (pack_any _ _ (by assumption) (by assumption) _).mono ?_; rintro e w1 ⟨rfl, hb1⟩; replace hb := hb.trans (hb1.mono hb.size); clear hb1))
              go_ret
              exact ⟨ret1_b rfl, hb⟩
            · have h2 : m < n := by omega
              have r := rise c a g h2
              have h3 : decide (n < m) = false := by simpa using h
              have h4 : decide (packW k n < packW k m) = false := by simp; omega
              clear i f g h
              go_enter Try.func7, Try.ntmps7
              go_wp2_with (first | (go_at_call 5; refine (WordKnown.walk _).mono ?_; rintro e w1 ⟨rfl, hb1⟩; replace hb := hb.trans (hb1.mono hb.size); clear hb1) | (go_at_call 8; refine (pack_any _ _ (by assumption) (by assumption) _).mono ?_; rintro e w1 ⟨rfl, hb1⟩; replace hb := hb.trans (hb1.mono hb.size); clear hb1))
              go_ret
              exact ⟨ret1_b rfl, hb⟩
      · have i := fun e => d (inj a c e).1
        have i' : (packW k n == packW k' m) = false := by simpa using i
        have d' : (k == k') = false := by simpa using d
        have d2 : (k != k') = true := by simpa using d
        clear i d
        go_enter Try.func7, Try.ntmps7
        go_wp2_with (first | (go_at_call 5; refine (WordKnown.walk _).mono ?_; rintro e w1 ⟨rfl, hb1⟩; replace hb := hb.trans (hb1.mono hb.size); clear hb1) | (go_at_call 8; refine (pack_any _ _ (by assumption) (by assumption) _).mono ?_; rintro e w1 ⟨rfl, hb1⟩; replace hb := hb.trans (hb1.mono hb.size); clear hb1))
        go_ret
        exact ⟨ret1_b rfl, hb⟩
    · have c' : (packE k' m != 0) = true := by simpa using c
      clear c
      go_enter Try.func7, Try.ntmps7
      go_wp2_with (first | (go_at_call 5; refine (WordKnown.walk _).mono ?_; rintro e w1 ⟨rfl, hb1⟩; replace hb := hb.trans (hb1.mono hb.size); clear hb1) | (go_at_call 8; refine (pack_any _ _ (by assumption) (by assumption) _).mono ?_; rintro e w1 ⟨rfl, hb1⟩; replace hb := hb.trans (hb1.mono hb.size); clear hb1))
      go_ret
      exact ⟨ret1_b rfl, hb⟩
  · have a' : (packE k n != 0) = true := by simpa using a
    clear a
    go_enter Try.func7, Try.ntmps7
    go_wp2_with (first | (go_at_call 5; refine (WordKnown.walk _).mono ?_; rintro e w1 ⟨rfl, hb1⟩; replace hb := hb.trans (hb1.mono hb.size); clear hb1) | (go_at_call 8; refine (pack_any _ _ (by assumption) (by assumption) _).mono ?_; rintro e w1 ⟨rfl, hb1⟩; replace hb := hb.trans (hb1.mono hb.size); clear hb1))
    go_ret
    exact ⟨ret1_b rfl, hb⟩

theorem contract {H : Type} {enc : TypeId × Value → H} (W : World) {base : Nat} {r : Reach} {b : Nat} {sp : Nat → Bool} {hd : Bool} {v0 v1 v2 v3 : Value} {d0 d1 d2 d3 : DataW H} {p0 p1 p2 p3 : List MemPlace}
    (o0 : Value.okWide Try.prog W r b 3 v0) (h0 : DataW.Trod enc Try.prog W base sp hd 3 v0 d0 p0) (o1 : Value.okWide Try.prog W r b 3 v1) (h1 : DataW.Trod enc Try.prog W base sp hd 3 v1 d1 p1)
    (o2 : Value.okWide Try.prog W r b 3 v2) (h2 : DataW.Trod enc Try.prog W base sp hd 3 v2 d2 p2) (o3 : Value.okWide Try.prog W r b 3 v3) (h3 : DataW.Trod enc Try.prog W base sp hd 3 v3 d3 p3) {Q R : Prop} (_ : Q) (_ : R) :
    Calls Try.prog 7 #[v0, v1, v2, v3] W fun e w' => e = .returned (.bool true) ∧ Below W.heap.size W w' := by
  obtain ⟨a0, rfl, _, _, w0⟩ := open_int Try.underlying3 o0 h0
  obtain ⟨a1, rfl, _, _, w1⟩ := open_int Try.underlying3 o1 h1
  obtain ⟨a2, rfl, _, _, w2⟩ := open_int Try.underlying3 o2 h2
  obtain ⟨a3, rfl, _, _, w3⟩ := open_int Try.underlying3 o3 h3
  exact walk a0 a1 a2 a3 w0 w1 w2 w3 W

theorem own : ownKnob Try.prog.godebug = none := by kernel_rfl
theorem laidOut : laidOutB Try.prog = true := by kernel_rfl
theorem readable : ∀ t ∈ Try.f7.params.toList, Try.prog.readableRec t = true ∧ t < Try.prog.types.size := by
  rw [show Try.f7.params = #[3, 3, 3, 3] from Try.params7]
  intro t h
  simp only [List.mem_cons, List.not_mem_nil, or_false] at h
  rcases h with rfl | rfl | rfl | rfl
  · exact ⟨by kernel_rfl, of_decide_eq_true (by kernel_rfl)⟩
  · exact ⟨by kernel_rfl, of_decide_eq_true (by kernel_rfl)⟩
  · exact ⟨by kernel_rfl, of_decide_eq_true (by kernel_rfl)⟩
  · exact ⟨by kernel_rfl, of_decide_eq_true (by kernel_rfl)⟩
set_option maxRecDepth 100000 in
theorem lifted (os : Os) (started : os.Started) (H : Type) (enc : TypeId × Value → H) :
    ReturnsInHanded {} Try.checked os 7 .any (Rows.wordApartSpec.pre6 enc Try.prog Try.f7 Rows.wordApartRow.domain false) (Rows.wordApartSpec.post enc Try.prog Try.f7 false true false false) := by
  refine K.law_lift (C := Try.checked) (b := 4) own started (by kernel_rfl) Try.func7
    (ChangeSpec.witness6 (enc := enc) (C := Try.checked) false ⟨#[], #[.int .i64 0, .int .i64 0, .int .i64 0, .int .i64 0], []⟩ 8 (by kernel_rfl) (by kernel_rfl) (by kernel_rfl) (by kernel_rfl)) laidOut readable rfl rfl Try.underlying4 ?_ ?_
  · intro ds hds
    rw [show Try.f7.params = #[3, 3, 3, 3] from Try.params7] at hds
    match ds, hds with
    | [d0, d1, d2, d3], _ => rfl
  · intro W base args ds p hval hA hlt hsz
    rw [show Try.checked.prog = Try.prog from rfl] at hval hA hsz
    rw [show Try.f7.params = #[3, 3, 3, 3] from Try.params7] at hA hval hsz
    obtain ⟨v0, vs0, d0, ds0, p0, q0, hargs, rfl, rfl, h0, r0⟩ := trodAll_cons hA
    obtain ⟨v1, vs1, d1, ds1, p1, q1, rfl, rfl, rfl, h1, r1⟩ := trodAll_cons r0
    obtain ⟨v2, vs2, d2, ds2, p2, q2, rfl, rfl, rfl, h2, r2⟩ := trodAll_cons r1
    obtain ⟨v3, vs3, d3, ds3, p3, q3, rfl, rfl, rfl, h3, r3⟩ := trodAll_cons r2
    obtain ⟨rfl, rfl, rfl⟩ := trodAll_nil r3
    obtain rfl : args = #[v0, v1, v2, v3] := by cases args; simp_all
    exact contract W (hval 0 3 v0 rfl rfl) h0 (hval 1 3 v1 rfl rfl) h1 (hval 2 3 v2 rfl rfl) h2 (hval 3 3 v3 rfl rfl) h3 (fun x hx => hlt x hx) hsz

theorem over : Rows.wordApartRow.holds Try.pinned (OpenSpec.ofChange Rows.wordApartSpec) :=
  OpenClaim.holds_of_wide 7 Try.f7 rfl rfl rfl rfl rfl rfl rfl ⟨rfl, rfl, rfl, rfl, rfl⟩ rfl rfl rfl rfl rfl (by kernel_rfl) Try.func7 (by kernel_rfl)
    (of_decide_eq_true (by kernel_rfl)) (by unfold Func.isWrapper; rw [if_neg (of_decide_eq_false (by kernel_rfl))]; exact ⟨rfl, rfl⟩)
    (fun os started H enc _ => lifted os started H enc)

/-- THE STATEMENT -/
theorem proved : Rows.WordApartSaid := over
#print axioms proved
end Go.Proofs.Ytagenacmbmdkjaa.WordApart
