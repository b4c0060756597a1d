/- The law HashSplits returns true for all hashes and numbers: one bucket more splits one. -/
import Derived.Test.YtbpdaoedmjpdpaaHashKnown
namespace Go.Proofs.Ytbpdaoedmjpdpaa.HashSplits
open Go.RowKit K Hs
open Go.ChangeShapes Go.WideShapes Go.ChangeAt
set_option linter.unusedVariables false
set_option linter.unusedSimpArgs false

set_option maxRecDepth 100000 in
set_option maxHeartbeats 4000000 in
theorem walk (g h n : Int) (w : World) (g0 : 0 ≤ g) (g1 : g ≤ 4294967295) (h0 : 0 ≤ h) (h1 : h ≤ 4294967295) : Calls Try.prog 5 #[.int .u32 g, .int .u32 h, .int .i64 n] w fun e w' => e = .returned (.bool true) ∧ Below w.heap.size w w' := by
  have HK := Lib.hid (fun w => HashKnown.known w)
  by_cases n1 : n < 1
  · go_enter Try.func5, Try.ntmps5
    go_wp2_with fail
    refine (HK.out _).mono ?_
    rintro e w1 ⟨rfl, hb1⟩
    have HB1 := Lib.hid hb1
    clear hb1
    go_wp2_with fail
    go_ret
    exact ⟨rfl, HB1.out⟩
  by_cases n2 : 1048576 ≤ n
  · go_enter Try.func5, Try.ntmps5
    go_wp2_with fail
    refine (HK.out _).mono ?_
    rintro e w1 ⟨rfl, hb1⟩
    have HB1 := Lib.hid hb1
    clear hb1
    go_wp2_with fail
    go_ret
    exact ⟨rfl, HB1.out⟩
  have e1 : bktE n = 0 := by unfold bktE; rw [if_neg (by omega)]
  have e2 : bktE (n + 1) = 0 := by unfold bktE; rw [if_neg (by omega)]
  have v1 : ∀ x, bktV x n = bktI x n := fun x => by unfold bktV; rw [if_neg (by omega)]
  have v2 : ∀ x, bktV x (n + 1) = bktI x (n + 1) := fun x => by unfold bktV; rw [if_neg (by omega)]
  obtain ⟨o, hs⟩ := bkt_split (n := n) (by omega) (by omega)
  have hra := bktI_range (g := g) (n := n) (by omega) (by omega)
  obtain ⟨sg1, sg2⟩ := hs g
  obtain ⟨sh1, sh2⟩ := hs h
  have H1 := bucket_any g n
  have H2 := bucket_any g (n + 1)
  have H3 := bucket_any h n
  have H4 := bucket_any h (n + 1)
  rw [e1, v1] at H1 H3
  rw [e2, v2] at H2 H4
  obtain ⟨a, ha⟩ : ∃ a, bktI g n = a := ⟨_, rfl⟩
  obtain ⟨b, hb⟩ : ∃ a, bktI g (n + 1) = a := ⟨_, rfl⟩
  obtain ⟨c, hc⟩ : ∃ a, bktI h n = a := ⟨_, rfl⟩
  obtain ⟨d, hd⟩ : ∃ a, bktI h (n + 1) = a := ⟨_, rfl⟩
  rw [ha] at hra sg1 sg2 H1
  rw [hb] at sg1 sg2 H2
  rw [hc] at sh1 sh2 H3
  rw [hd] at sh1 sh2 H4
  have H1 := Lib.hid (fun w => H1 w g0 g1)
  have H2 := Lib.hid (fun w => H2 w g0 g1)
  have H3 := Lib.hid (fun w => H3 w h0 h1)
  have H4 := Lib.hid (fun w => H4 w h0 h1)
  obtain ⟨ra1, ra2⟩ := hra
  have hone : ((b == a) || (b == n)) = true := by
    rcases sg1 with e | e
    · rw [e]; simp
    · rw [e]; simp
  have hlast : ((b != n) || ((d != n) || (a == c))) = true := by
    by_cases hbn : b = n
    · by_cases hdn : d = n
      · rw [sg2 hbn, sh2 hdn]; simp
      · simp [hdn]
    · simp [hbn]
  have HONE := Lib.hid hone
  have HLAST := Lib.hid hlast
  clear ha hb hc hd e1 e2 v1 v2 hs sg1 sg2 sh1 sh2 hone hlast
  go_enter Try.func5, Try.ntmps5
  go_wp2_with fail
  refine (HK.out _).mono ?_
  rintro e w1 ⟨rfl, hb1⟩
  have HB1 := Lib.hid hb1
  clear hb1
  go_wp2_with fail
  refine (H1.out _).mono ?_
  rintro e w2 ⟨rfl, rfl⟩
  go_wp2_with fail
  refine (H2.out _).mono ?_
  rintro e w2 ⟨rfl, rfl⟩
  go_wp2_with fail
  refine (H3.out _).mono ?_
  rintro e w2 ⟨rfl, rfl⟩
  go_wp2_with fail
  refine (H4.out _).mono ?_
  rintro e w2 ⟨rfl, rfl⟩
  go_wp2_with fail
  all_goals
    go_ret
    refine ⟨ret1_b ?_, HB1.out⟩
    have h1 := HLAST.out
    have h2 := HONE.out
    first
      | rfl
      | (clear HLAST HONE HB1 H1 H2 H3 H4 HK; simp_all; done)
      | (clear HLAST HONE HB1 H1 H2 H3 H4 HK; simp at *; omega)

theorem contract {H : Type} {enc : TypeId × Value → H} (W : World) {base : Nat} {r : Reach} {b : Nat} {sp : Nat → Bool} {hd : Bool} {v0 v1 v2 : Value} {d0 d1 d2 : DataW H} {p0 p1 p2 : List MemPlace}
    (o0 : Value.okWide Try.prog W r b 22 v0) (h0 : DataW.Trod enc Try.prog W base sp hd 22 v0 d0 p0) (o1 : Value.okWide Try.prog W r b 22 v1) (h1 : DataW.Trod enc Try.prog W base sp hd 22 v1 d1 p1)
    (o2 : Value.okWide Try.prog W r b 3 v2) (h2 : DataW.Trod enc Try.prog W base sp hd 3 v2 d2 p2) {Q R : Prop} (_ : Q) (_ : R) :
    Calls Try.prog 5 #[v0, v1, v2] W fun e w' => e = .returned (.bool true) ∧ Below W.heap.size W w' := by
  obtain ⟨a0, rfl, _, _, w0⟩ := open_int Try.underlying22 o0 h0
  obtain ⟨a1, rfl, _, _, w1⟩ := open_int Try.underlying22 o1 h1
  obtain ⟨a2, rfl, _, _, w2⟩ := open_int Try.underlying3 o2 h2
  have b0 := bounds_u32 w0
  have b1 := bounds_u32 w1
  exact walk a0 a1 a2 W b0.1 b0.2 b1.1 b1.2

theorem own : ownKnob Try.prog.godebug = none := by kernel_rfl
theorem laidOut : laidOutB Try.prog = true := by kernel_rfl
theorem readable : ∀ t ∈ Try.f5.params.toList, Try.prog.readableRec t = true ∧ t < Try.prog.types.size := by
  rw [show Try.f5.params = #[22, 22, 3] from Try.params5]
  intro t h
  simp only [List.mem_cons, List.not_mem_nil, or_false] at h
  rcases h with rfl | rfl | rfl
  · exact ⟨by kernel_rfl, of_decide_eq_true (by kernel_rfl)⟩
  · exact ⟨by kernel_rfl, of_decide_eq_true (by kernel_rfl)⟩
  · exact ⟨by kernel_rfl, of_decide_eq_true (by kernel_rfl)⟩
set_option maxRecDepth 100000 in
theorem lifted (os : Os) (started : os.Started) (H : Type) (enc : TypeId × Value → H) :
    ReturnsInHanded {} Try.checked os 5 .any (Rows.hashSplitsSpec.pre6 enc Try.prog Try.f5 Rows.hashSplitsRow.domain false) (Rows.hashSplitsSpec.post enc Try.prog Try.f5 false true false false) := by
  refine K.law_lift (C := Try.checked) (b := 4) own started (by kernel_rfl) Try.func5
    (ChangeSpec.witness6 (enc := enc) (C := Try.checked) false ⟨#[], #[.int .u32 0, .int .u32 0, .int .i64 0], []⟩ 8 (by kernel_rfl) (by kernel_rfl) (by kernel_rfl) (by kernel_rfl)) laidOut readable rfl rfl Try.underlying4 ?_ ?_
  · intro ds hds
    rw [show Try.f5.params = #[22, 22, 3] from Try.params5] at hds
    match ds, hds with
    | [d0, d1, d2], _ => rfl
  · intro W base args ds p hval hA hlt hsz
    rw [show Try.checked.prog = Try.prog from rfl] at hval hA hsz
    rw [show Try.f5.params = #[22, 22, 3] from Try.params5] at hA hval hsz
    obtain ⟨v0, vs0, d0, ds0, p0, q0, hargs, rfl, rfl, h0, r0⟩ := trodAll_cons hA
    obtain ⟨v1, vs1, d1, ds1, p1, q1, rfl, rfl, rfl, h1, r1⟩ := trodAll_cons r0
    obtain ⟨v2, vs2, d2, ds2, p2, q2, rfl, rfl, rfl, h2, r2⟩ := trodAll_cons r1
    obtain ⟨rfl, rfl, rfl⟩ := trodAll_nil r2
    obtain rfl : args = #[v0, v1, v2] := by cases args; simp_all
    exact contract W (hval 0 22 v0 rfl rfl) h0 (hval 1 22 v1 rfl rfl) h1 (hval 2 3 v2 rfl rfl) h2 (fun x hx => hlt x hx) hsz

theorem over : Rows.hashSplitsRow.holds Try.pinned (OpenSpec.ofChange Rows.hashSplitsSpec) :=
  OpenClaim.holds_of_wide 5 Try.f5 rfl rfl rfl rfl rfl rfl rfl ⟨rfl, rfl, rfl, rfl, rfl⟩ rfl rfl rfl rfl rfl (by kernel_rfl) Try.func5 (by kernel_rfl)
    (of_decide_eq_true (by kernel_rfl)) (by unfold Func.isWrapper; rw [if_neg (of_decide_eq_false (by kernel_rfl))]; exact ⟨rfl, rfl⟩)
    (fun os started H enc _ => lifted os started H enc)

/-- THE STATEMENT -/
theorem proved : Rows.HashSplitsSaid := over
#print axioms proved
end Go.Proofs.Ytbpdaoedmjpdpaa.HashSplits
