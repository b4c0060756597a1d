/- The law AtomFull returns true for every input: as many atoms fit as may be, no more, and those that are there keep their numbers. -/
import Derived.Test.YtnomnkohhfkdnaaAtomKnown
import Derived.Test.YtnomnkohhfkdnaaNames06
import Derived.Test.YtnomnkohhfkdnaaPick
namespace Go.Proofs.Ytnomnkohhfkdnaa.AtomFull
open Go.RowKit K At AtomKnown
open Go.ChangeShapes Go.WideShapes Go.ChangeAt
set_option linter.unusedVariables false
set_option linter.unusedSimpArgs false

set_option maxRecDepth 100000 in
set_option maxHeartbeats 8000000 in
theorem walk (long which : Int) (h1 : (Lit.int .i64 long).wf = true) (h2 : (Lit.int .i64 which).wf = true) (w : World) :
    Calls Try.prog 4 #[.int .i64 long, .int .i64 which] w fun e w' => e = .returned (.bool true) ∧ Below w.heap.size w w' := by
  have hp := pickN_range (x := long) (n := 61) (by omega)
  obtain ⟨l, hl⟩ : ∃ l : Nat, 4 + pickN long 61 = (l : Int) := ⟨(4 + pickN long 61).toNat, by omega⟩
  have l4 : 4 ≤ l := by omega
  have l64 : l ≤ 64 := by omega
  have hif : (if (65536 : Int) / (l : Int) < 4096 then (65536 : Int) / (l : Int) else 4096) = (roomOf l : Int) := by
    have e : (65536 : Int) / (l : Int) = ((65536 / l : Nat) : Int) := by simp
    rw [e]
    unfold roomOf
    split <;> omega
  have hr0 := roomOf_le l
  have hr1 := roomOf_pos (l := l) (by omega) l64
  go_enter Try.func4, Try.ntmps4
  go_wp2_with fail
  refine (AtomKnown.walk _).mono ?_
  rintro e w1 ⟨rfl, hb1⟩
  go_wp2_with fail
  refine (pick_any _ _ h1 (by decide) _).mono ?_
  rintro e w2 ⟨rfl, rfl⟩
  go_wp2_with fail
  refine (new_any _).mono ?_
  rintro e w2 ⟨g, rfl, hT, hb⟩
  have hS := St.made' hb1 hb1.size hT hb
  clear hT hb hb1
  go_wp2_with fail
  clear hif hl
  go_loopw [8] (fun i wr => ∃ k : Nat, k ≤ roomOf l ∧ i = .int .i64 (k : Int) ∧ St w.heap.size w g (names l k) wr) (fun i _ => roomOf l - (intOf i).toNat)
  case atStart => exact ⟨0, Nat.zero_le _, rfl, hS⟩
  case round =>
    obtain ⟨k, hk, rfl, hSr⟩ := hrel
    clear hS
    by_cases hlt : k < roomOf l
    · have HN := Lib.hid (names_step l4 l64 hlt)
      have hsz : (nm l k).size ≤ maxLen := by rw [nm_size]; unfold maxLen; omega
      go_wp2_with (first
        | (go_at_call 15; refine (name_any k l (by omega) (by omega) l64 _).mono ?_; rintro e w3 ⟨rfl, hb3⟩; have hS3 := hSr.grown hb3; clear hb3)
        | (go_at_call 9; refine (interned_yes hS3 hsz HN.out).mono ?_; rintro e w4 ⟨rfl, hS4⟩))
      go_roundw
      case rel => exact ⟨k + 1, by omega, by go_num, hS4⟩
      case measure => simp [intOf]; omega
    · obtain rfl : k = roomOf l := by omega
      clear hk hlt
      have hsz : (nm l (roomOf l)).size ≤ maxLen := by rw [nm_size]; unfold maxLen; omega
      obtain ⟨o1, o2, o3⟩ := names_over l4 l64
      go_wp2_with fail
      refine (name_any (roomOf l) l hr0 (by omega) l64 _).mono ?_
      rintro e w3 ⟨rfl, hb3⟩
      have hS3 := hSr.grown hb3
      clear hb3 hSr
      have HI := intern_st _ _ _ _ _ _ hS3 hsz
      rw [o1, o2, o3] at HI
      clear o1 o2 o3 hS3
      have HI' := Lib.hid HI
      clear HI
      go_wp2_with fail
      refine HI'.out.mono ?_
      rintro e w4 ⟨rfl, hS4⟩
      clear HI'
      go_wp2_with fail
      refine (pick_any _ _ h2 (WalkArith.wf_i64 (by omega)) _).mono ?_
      rintro e w5 ⟨rfl, rfl⟩
      have hq := pickN_range (x := which) (n := (roomOf l : Int)) (by omega)
      obtain ⟨q, hq2⟩ : ∃ q : Nat, pickN which (roomOf l) = (q : Int) := ⟨(pickN which (roomOf l)).toNat, by omega⟩
      have hq3 : q < roomOf l := by omega
      clear hq
      go_wp2_with fail
      refine (name_st_yes hS4 q (nm l q) (names_get hq3)).mono ?_
      rintro e w5 ⟨rfl, rfl⟩
      go_wp2_with fail
      refine (name_any q l (by omega) (by omega) l64 _).mono ?_
      rintro e w6 ⟨rfl, hb6⟩
      have hS6 := hS4.grown hb6
      clear hb6 hS4
      have hsz2 : (nm l q).size ≤ maxLen := by rw [nm_size]; unfold maxLen; omega
      go_wp2_with fail
      refine (interned_yes hS6 hsz2 (names_again l4 l64 hq3)).mono ?_
      rintro e w7 ⟨rfl, hS7⟩
      clear hS6
      go_wp2_with fail
      have HL := len_st _ _ _ _ _ hS7
      rw [names_length] at HL
      refine HL.mono ?_
      rintro e w8 ⟨rfl, rfl⟩
      clear HL
      go_wp2_with fail
      go_ret
      exact ⟨ret1_b rfl, hS7.1⟩

theorem contract {H : Type} {enc : TypeId × Value → H} (W : World) {base : Nat} {r : Reach} {b : Nat} {sp : Nat → Bool} {hd : Bool} {v0 v1 : Value} {d0 d1 : DataW H} {p0 p1 : List MemPlace}
    (o0 : Value.okWide Try.prog W r b 3 v0) (h0 : DataW.Trod enc Try.prog W base sp hd 3 v0 d0 p0) (o1 : Value.okWide Try.prog W r b 3 v1) (h1 : DataW.Trod enc Try.prog W base sp hd 3 v1 d1 p1) {Q R : Prop} (_ : Q) (_ : R) :
    Calls Try.prog 4 #[v0, v1] W fun e w' => e = .returned (.bool true) ∧ Below W.heap.size W w' := by
  obtain ⟨a0, rfl, _, _, w0⟩ := open_int Try.underlying3 o0 h0
  obtain ⟨a1, rfl, _, _, w1⟩ := open_int Try.underlying3 o1 h1
  exact walk a0 a1 w0 w1 W

theorem own : ownKnob Try.prog.godebug = none := by kernel_rfl
theorem laidOut : laidOutB Try.prog = true := by kernel_rfl
theorem readable : ∀ t ∈ Try.f4.params.toList, Try.prog.readableRec t = true ∧ t < Try.prog.types.size := by
  rw [show Try.f4.params = #[3, 3] from Try.params4]
  intro t h
  simp only [List.mem_cons, List.not_mem_nil, or_false] at h
  rcases h with rfl | rfl
  · exact ⟨by kernel_rfl, of_decide_eq_true (by kernel_rfl)⟩
  · exact ⟨by kernel_rfl, of_decide_eq_true (by kernel_rfl)⟩
set_option maxRecDepth 100000 in
theorem lifted (os : Os) (started : os.Started) (H : Type) (enc : TypeId × Value → H) :
    ReturnsInHanded {} Try.checked os 4 .any (Rows.atomFullSpec.pre6 enc Try.prog Try.f4 Rows.atomFullRow.domain false) (Rows.atomFullSpec.post enc Try.prog Try.f4 false true false false) := by
  refine K.law_lift (C := Try.checked) (b := 4) own started (by kernel_rfl) Try.func4
    (ChangeSpec.witness6 (enc := enc) (C := Try.checked) false ⟨#[], #[.int .i64 0, .int .i64 0], []⟩ 8 (by kernel_rfl) (by kernel_rfl) (by kernel_rfl) (by kernel_rfl)) laidOut readable rfl rfl Try.underlying4 ?_ ?_
  · intro ds hds
    rw [show Try.f4.params = #[3, 3] from Try.params4] at hds
    match ds, hds with
    | [d0, d1], _ => rfl
  · intro W base args ds p hval hA hlt hsz
    rw [show Try.checked.prog = Try.prog from rfl] at hval hA hsz
    rw [show Try.f4.params = #[3, 3] from Try.params4] at hA hval hsz
    obtain ⟨v0, vs0, d0, ds0, p0, q0, hargs, rfl, rfl, h0, r0⟩ := trodAll_cons hA
    obtain ⟨v1, vs1, d1, ds1, p1, q1, rfl, rfl, rfl, h1, r1⟩ := trodAll_cons r0
    obtain ⟨rfl, rfl, rfl⟩ := trodAll_nil r1
    obtain rfl : args = #[v0, v1] := by cases args; simp_all
    exact contract W (hval 0 3 v0 rfl rfl) h0 (hval 1 3 v1 rfl rfl) h1 (fun x hx => hlt x hx) hsz

theorem over : Rows.atomFullRow.holds Try.pinned (OpenSpec.ofChange Rows.atomFullSpec) :=
  OpenClaim.holds_of_wide 4 Try.f4 rfl rfl rfl rfl rfl rfl rfl ⟨rfl, rfl, rfl, rfl, rfl⟩ rfl rfl rfl rfl rfl (by kernel_rfl) Try.func4 (by kernel_rfl)
    (of_decide_eq_true (by kernel_rfl)) (by unfold Func.isWrapper; rw [if_neg (of_decide_eq_false (by kernel_rfl))]; exact ⟨rfl, rfl⟩)
    (fun os started H enc _ => lifted os started H enc)

/-- THE STATEMENT -/
theorem proved : Rows.AtomFullSaid := over
#print axioms proved
end Go.Proofs.Ytnomnkohhfkdnaa.AtomFull
