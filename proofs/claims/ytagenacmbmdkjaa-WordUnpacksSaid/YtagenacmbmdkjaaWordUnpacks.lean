/- The law WordUnpacks returns true for every input: what a word says, or the error, is the document's answer. -/
import Derived.Test.YtagenacmbmdkjaaLaw01
namespace Go.Proofs.Ytagenacmbmdkjaa.WordUnpacks
open Go.RowKit K Wd
open Go.ChangeShapes Go.WideShapes Go.ChangeAt
set_option linter.unusedVariables false
set_option linter.unusedSimpArgs false

set_option maxHeartbeats 4000000 in
theorem walk (x : Int) (h0 : 0 ≤ x) (h1 : x < 18446744073709551616) (w : World) :
    Calls Try.prog 4 #[.int .u64 x] w fun e w' => e = .returned (.bool true) ∧ Below w.heap.size w w' := by
  have hr : 0 ≤ x % 16 := by omega
  have hr' : x % 16 ≤ 15 := by omega
  have hb := Below.refl w.heap.size w
  go_enter Try.func4, Try.ntmps4
  go_wp2_with (first | (go_at_call 11; refine (unpack_any _ h0 h1 _).mono ?_; rintro e w1 ⟨rfl, hb1⟩; replace hb := hb.trans (hb1.mono hb.size); clear hb1) | (go_at_call 12; refine (runpack_any _ h0 h1 _).mono ?_; rintro e w2 ⟨rfl, rfl⟩) | (go_at_call 13; refine (kind_any _ h0 h1 _).mono ?_; rintro e w2 ⟨rfl, rfl⟩) | (go_at_call 14; refine (boxed_any _ h0 h1 _).mono ?_; rintro e w2 ⟨rfl, rfl⟩) | (go_at_call 15; refine (rboxed_any _ h0 h1 _).mono ?_; rintro e w2 ⟨rfl, rfl⟩) | (go_at_call 10; refine (awake_any _).mono ?_; rintro e w1 ⟨rfl, hb1⟩; replace hb := hb.trans (hb1.mono hb.size); clear hb1))
  go_ret
  exact ⟨ret1_b rfl, hb⟩

theorem contract {H : Type} {enc : TypeId × Value → H} (W : World) {base : Nat} {r : Reach} {b : Nat} {sp : Nat → Bool} {hd : Bool} {v0 : Value} {d0 : DataW H} {p0 : List MemPlace}
    (o0 : Value.okWide Try.prog W r b 22 v0) (h0 : DataW.Trod enc Try.prog W base sp hd 22 v0 d0 p0) {Q R : Prop} (_ : Q) (_ : R) :
    Calls Try.prog 4 #[v0] W fun e w' => e = .returned (.bool true) ∧ Below W.heap.size W w' := by
  obtain ⟨a0, rfl, _, _, w0⟩ := open_int Try.underlying22 o0 h0
  have := bounds_u64 w0
  exact walk a0 (by omega) (by omega) W

theorem own : ownKnob Try.prog.godebug = none := by kernel_rfl
theorem laidOut : laidOutB Try.prog = true := by kernel_rfl
theorem readable : ∀ t ∈ Try.f4.params.toList, Try.prog.readableRec t = true ∧ t < Try.prog.types.size := by
  rw [show Try.f4.params = #[22] from Try.params4]
  intro t h
  simp only [List.mem_cons, List.not_mem_nil, or_false] at h
  subst h
  exact ⟨by kernel_rfl, of_decide_eq_true (by kernel_rfl)⟩
set_option maxRecDepth 100000 in
theorem lifted (os : Os) (started : os.Started) (H : Type) (enc : TypeId × Value → H) :
    ReturnsInHanded {} Try.checked os 4 .any (Rows.wordUnpacksSpec.pre6 enc Try.prog Try.f4 Rows.wordUnpacksRow.domain false) (Rows.wordUnpacksSpec.post enc Try.prog Try.f4 false true false false) := by
  refine K.law_lift (C := Try.checked) (b := 4) own started (by kernel_rfl) Try.func4
    (ChangeSpec.witness6 (enc := enc) (C := Try.checked) false ⟨#[], #[.int .u64 0], []⟩ 8 (by kernel_rfl) (by kernel_rfl) (by kernel_rfl) (by kernel_rfl)) laidOut readable rfl rfl Try.underlying4 ?_ ?_
  · intro ds hds
    rw [show Try.f4.params = #[22] from Try.params4] at hds
    match ds, hds with
    | [d0], _ => rfl
  · intro W base args ds p hval hA hlt hsz
    rw [show Try.checked.prog = Try.prog from rfl] at hval hA hsz
    rw [show Try.f4.params = #[22] from Try.params4] at hA hval hsz
    obtain ⟨v0, vs0, d0, ds0, p0, q0, hargs, rfl, rfl, h0, r0⟩ := trodAll_cons hA
    obtain ⟨rfl, rfl, rfl⟩ := trodAll_nil r0
    obtain rfl : args = #[v0] := by cases args; simp_all
    exact contract W (hval 0 22 v0 rfl rfl) h0 (fun x hx => hlt x hx) hsz

theorem over : Rows.wordUnpacksRow.holds Try.pinned (OpenSpec.ofChange Rows.wordUnpacksSpec) :=
  OpenClaim.holds_of_wide 4 Try.f4 rfl rfl rfl rfl rfl rfl rfl ⟨rfl, rfl, rfl, rfl, rfl⟩ rfl rfl rfl rfl rfl (by kernel_rfl) Try.func4 (by kernel_rfl)
    (of_decide_eq_true (by kernel_rfl)) (by unfold Func.isWrapper; rw [if_neg (of_decide_eq_false (by kernel_rfl))]; exact ⟨rfl, rfl⟩)
    (fun os started H enc _ => lifted os started H enc)

/-- THE STATEMENT -/
theorem proved : Rows.WordUnpacksSaid := over
#print axioms proved
end Go.Proofs.Ytagenacmbmdkjaa.WordUnpacks
