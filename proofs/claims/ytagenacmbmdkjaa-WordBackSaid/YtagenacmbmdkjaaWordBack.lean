/- The law WordBack returns true for every input: what is packed is unpacked as it was, and the other way round. -/
import Derived.Test.YtagenacmbmdkjaaWordKnown
import Derived.Deep.RegionWith
namespace Go.Proofs.Ytagenacmbmdkjaa.WordBack
open Go.RowKit K Wd
open Go.ChangeShapes Go.WideShapes Go.ChangeAt
set_option linter.unusedVariables false
set_option linter.unusedSimpArgs false

theorem back_ok {k n : Int} (h : packE k n = 0) : unE (packW k n) = 0 ∧ unK (packW k n) = k ∧ unN (packW k n) = n := by
  obtain ⟨a, b, c⟩ := un_pack h
  refine ⟨a, ?_, ?_⟩
  · unfold unK; rw [if_pos a, b]
  · unfold unN; rw [if_pos a, c]
theorem forth_ok {x : Int} (x0 : 0 ≤ x) (x1 : x < 18446744073709551616) (h : unE x = 0) : packE (unK x) (unN x) = 0 ∧ packW (unK x) (unN x) = x := by
  have e1 : unK x = x % 16 := by unfold unK; rw [if_pos h]
  have e2 : unN x = wordN x := by unfold unN; rw [if_pos h]
  rw [e1, e2]
  exact pack_un x0 x1 h
theorem wf_unK {x : Int} (x0 : 0 ≤ x) : (Lit.int .i64 (unK x)).wf = true := WalkArith.wf_i64 (by unfold unK; split <;> omega)
theorem wf_unN {x : Int} (x0 : 0 ≤ x) (x1 : x < 18446744073709551616) : (Lit.int .i64 (unN x)).wf = true := WalkArith.wf_i64 (by unfold unN wordN; repeat (first | split | omega))

set_option maxHeartbeats 8000000 in
theorem walk (k n x : Int) (hk : (Lit.int .i64 k).wf = true) (hn : (Lit.int .i64 n).wf = true) (x0 : 0 ≤ x) (x1 : x < 18446744073709551616) (w : World) :
    Calls Try.prog 6 #[.int .i64 k, .int .i64 n, .int .u64 x] w fun e w' => e = .returned (.bool true) ∧ Below w.heap.size w w' := by
  obtain ⟨p0, p1⟩ := packW_range k n
  have k1 := wf_unK x0
  have k2 := wf_unN x0 x1
  have hb := Below.refl w.heap.size w
  by_cases a : packE k n = 0
  · obtain ⟨q0, q1, q2⟩ := back_ok a
    by_cases c : unE x = 0
    · obtain ⟨r0, r1⟩ := forth_ok x0 x1 c
      go_enter Try.func6, Try.ntmps6
      go_wp2_with (first | (go_at_call 5; refine (WordKnown.walk _).mono ?_; rintro e w1 ⟨rfl, hb1⟩; replace hb := hb.trans (hb1.mono hb.size); clear hb1) | (go_at_call_of 8 (Value.int .i64 k); refine (pack_any k n hk hn _).mono ?_; rintro e w1 ⟨rfl, hb1⟩; replace hb := hb.trans (hb1.mono hb.size); clear hb1) | (go_at_call_of 11 (Value.int .u64 x); refine (unpack_any x x0 x1 _).mono ?_; rintro e w1 ⟨rfl, hb1⟩; replace hb := hb.trans (hb1.mono hb.size); clear hb1) | (go_at_call 11; refine (unpack_any _ p0 p1 _).mono ?_; rintro e w1 ⟨rfl, hb1⟩; replace hb := hb.trans (hb1.mono hb.size); clear hb1) | (go_at_call 8; refine (pack_any _ _ (by assumption) (by assumption) _).mono ?_; rintro e w1 ⟨rfl, hb1⟩; replace hb := hb.trans (hb1.mono hb.size); clear hb1))
      go_ret
      exact ⟨ret1_b rfl, hb⟩
    · have c' : (unE x != 0) = true := by simpa using c
      clear c
      go_enter Try.func6, Try.ntmps6
      go_wp2_with (first | (go_at_call 5; refine (WordKnown.walk _).mono ?_; rintro e w1 ⟨rfl, hb1⟩; replace hb := hb.trans (hb1.mono hb.size); clear hb1) | (go_at_call_of 8 (Value.int .i64 k); refine (pack_any k n hk hn _).mono ?_; rintro e w1 ⟨rfl, hb1⟩; replace hb := hb.trans (hb1.mono hb.size); clear hb1) | (go_at_call_of 11 (Value.int .u64 x); refine (unpack_any x x0 x1 _).mono ?_; rintro e w1 ⟨rfl, hb1⟩; replace hb := hb.trans (hb1.mono hb.size); clear hb1) | (go_at_call 11; refine (unpack_any _ p0 p1 _).mono ?_; rintro e w1 ⟨rfl, hb1⟩; replace hb := hb.trans (hb1.mono hb.size); clear hb1) | (go_at_call 8; refine (pack_any _ _ (by assumption) (by assumption) _).mono ?_; rintro e w1 ⟨rfl, hb1⟩; replace hb := hb.trans (hb1.mono hb.size); clear hb1))
      go_ret
      exact ⟨ret1_b rfl, hb⟩
  · have a' : (packE k n == 0) = false := by simpa using a
    clear a
    by_cases c : unE x = 0
    · obtain ⟨r0, r1⟩ := forth_ok x0 x1 c
      go_enter Try.func6, Try.ntmps6
      go_wp2_with (first | (go_at_call 5; refine (WordKnown.walk _).mono ?_; rintro e w1 ⟨rfl, hb1⟩; replace hb := hb.trans (hb1.mono hb.size); clear hb1) | (go_at_call_of 8 (Value.int .i64 k); refine (pack_any k n hk hn _).mono ?_; rintro e w1 ⟨rfl, hb1⟩; replace hb := hb.trans (hb1.mono hb.size); clear hb1) | (go_at_call_of 11 (Value.int .u64 x); refine (unpack_any x x0 x1 _).mono ?_; rintro e w1 ⟨rfl, hb1⟩; replace hb := hb.trans (hb1.mono hb.size); clear hb1) | (go_at_call 11; refine (unpack_any _ p0 p1 _).mono ?_; rintro e w1 ⟨rfl, hb1⟩; replace hb := hb.trans (hb1.mono hb.size); clear hb1) | (go_at_call 8; refine (pack_any _ _ (by assumption) (by assumption) _).mono ?_; rintro e w1 ⟨rfl, hb1⟩; replace hb := hb.trans (hb1.mono hb.size); clear hb1))
      go_ret
      exact ⟨ret1_b rfl, hb⟩
    · have c' : (unE x != 0) = true := by simpa using c
      clear c
      go_enter Try.func6, Try.ntmps6
      go_wp2_with (first | (go_at_call 5; refine (WordKnown.walk _).mono ?_; rintro e w1 ⟨rfl, hb1⟩; replace hb := hb.trans (hb1.mono hb.size); clear hb1) | (go_at_call_of 8 (Value.int .i64 k); refine (pack_any k n hk hn _).mono ?_; rintro e w1 ⟨rfl, hb1⟩; replace hb := hb.trans (hb1.mono hb.size); clear hb1) | (go_at_call_of 11 (Value.int .u64 x); refine (unpack_any x x0 x1 _).mono ?_; rintro e w1 ⟨rfl, hb1⟩; replace hb := hb.trans (hb1.mono hb.size); clear hb1) | (go_at_call 11; refine (unpack_any _ p0 p1 _).mono ?_; rintro e w1 ⟨rfl, hb1⟩; replace hb := hb.trans (hb1.mono hb.size); clear hb1) | (go_at_call 8; refine (pack_any _ _ (by assumption) (by assumption) _).mono ?_; rintro e w1 ⟨rfl, hb1⟩; replace hb := hb.trans (hb1.mono hb.size); clear hb1))
      go_ret
      exact ⟨ret1_b rfl, hb⟩

theorem contract {H : Type} {enc : TypeId × Value → H} (W : World) {base : Nat} {r : Reach} {b : Nat} {sp : Nat → Bool} {hd : Bool} {v0 v1 v2 : Value} {d0 d1 d2 : DataW H} {p0 p1 p2 : List MemPlace}
    (o0 : Value.okWide Try.prog W r b 3 v0) (h0 : DataW.Trod enc Try.prog W base sp hd 3 v0 d0 p0) (o1 : Value.okWide Try.prog W r b 3 v1) (h1 : DataW.Trod enc Try.prog W base sp hd 3 v1 d1 p1)
    (o2 : Value.okWide Try.prog W r b 22 v2) (h2 : DataW.Trod enc Try.prog W base sp hd 22 v2 d2 p2) {Q R : Prop} (_ : Q) (_ : R) :
    Calls Try.prog 6 #[v0, v1, v2] W fun e w' => e = .returned (.bool true) ∧ Below W.heap.size W w' := by
  obtain ⟨a0, rfl, _, _, w0⟩ := open_int Try.underlying3 o0 h0
  obtain ⟨a1, rfl, _, _, w1⟩ := open_int Try.underlying3 o1 h1
  obtain ⟨a2, rfl, _, _, w2⟩ := open_int Try.underlying22 o2 h2
  have := bounds_u64 w2
  exact walk a0 a1 a2 w0 w1 (by omega) (by omega) W

theorem own : ownKnob Try.prog.godebug = none := by kernel_rfl
theorem laidOut : laidOutB Try.prog = true := by kernel_rfl
theorem readable : ∀ t ∈ Try.f6.params.toList, Try.prog.readableRec t = true ∧ t < Try.prog.types.size := by
  rw [show Try.f6.params = #[3, 3, 22] from Try.params6]
  intro t h
  simp only [List.mem_cons, List.not_mem_nil, or_false] at h
  rcases h with rfl | rfl | rfl
  · exact ⟨by kernel_rfl, of_decide_eq_true (by kernel_rfl)⟩
  · exact ⟨by kernel_rfl, of_decide_eq_true (by kernel_rfl)⟩
  · exact ⟨by kernel_rfl, of_decide_eq_true (by kernel_rfl)⟩
set_option maxRecDepth 100000 in
theorem lifted (os : Os) (started : os.Started) (H : Type) (enc : TypeId × Value → H) :
    ReturnsInHanded {} Try.checked os 6 .any (Rows.wordBackSpec.pre6 enc Try.prog Try.f6 Rows.wordBackRow.domain false) (Rows.wordBackSpec.post enc Try.prog Try.f6 false true false false) := by
  refine K.law_lift (C := Try.checked) (b := 4) own started (by kernel_rfl) Try.func6
    (ChangeSpec.witness6 (enc := enc) (C := Try.checked) false ⟨#[], #[.int .i64 0, .int .i64 0, .int .u64 0], []⟩ 8 (by kernel_rfl) (by kernel_rfl) (by kernel_rfl) (by kernel_rfl)) laidOut readable rfl rfl Try.underlying4 ?_ ?_
  · intro ds hds
    rw [show Try.f6.params = #[3, 3, 22] from Try.params6] at hds
    match ds, hds with
    | [d0, d1, d2], _ => rfl
  · intro W base args ds p hval hA hlt hsz
    rw [show Try.checked.prog = Try.prog from rfl] at hval hA hsz
    rw [show Try.f6.params = #[3, 3, 22] from Try.params6] at hA hval hsz
    obtain ⟨v0, vs0, d0, ds0, p0, q0, hargs, rfl, rfl, h0, r0⟩ := trodAll_cons hA
    obtain ⟨v1, vs1, d1, ds1, p1, q1, rfl, rfl, rfl, h1, r1⟩ := trodAll_cons r0
    obtain ⟨v2, vs2, d2, ds2, p2, q2, rfl, rfl, rfl, h2, r2⟩ := trodAll_cons r1
    obtain ⟨rfl, rfl, rfl⟩ := trodAll_nil r2
    obtain rfl : args = #[v0, v1, v2] := by cases args; simp_all
    exact contract W (hval 0 3 v0 rfl rfl) h0 (hval 1 3 v1 rfl rfl) h1 (hval 2 22 v2 rfl rfl) h2 (fun x hx => hlt x hx) hsz

theorem over : Rows.wordBackRow.holds Try.pinned (OpenSpec.ofChange Rows.wordBackSpec) :=
  OpenClaim.holds_of_wide 6 Try.f6 rfl rfl rfl rfl rfl rfl rfl ⟨rfl, rfl, rfl, rfl, rfl⟩ rfl rfl rfl rfl rfl (by kernel_rfl) Try.func6 (by kernel_rfl)
    (of_decide_eq_true (by kernel_rfl)) (by unfold Func.isWrapper; rw [if_neg (of_decide_eq_false (by kernel_rfl))]; exact ⟨rfl, rfl⟩)
    (fun os started H enc _ => lifted os started H enc)

/-- THE STATEMENT -/
theorem proved : Rows.WordBackSaid := over
#print axioms proved
end Go.Proofs.Ytagenacmbmdkjaa.WordBack
