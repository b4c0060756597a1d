/- The law FixNone returns true for every input: a count that is nil, or that nobody made, answers ErrNil and tells nothing. -/
import Derived.Test.YtbldebjdgenfdaaLaw12
namespace Go.Proofs.Ytbldebjdgenfdaa.FixNone
open Go.RowKit K Fx
open Go.ChangeShapes Go.WideShapes Go.ChangeAt
set_option linter.unusedVariables false
set_option linter.unusedSimpArgs false

def box : Array Value := #[.map none, .int .i64 0]
def pair (g : Nat) : Array Value := #[.pointer none, .pointer (some ⟨g, 0, none⟩)]

set_option maxRecDepth 100000 in
set_option maxHeartbeats 8000000 in
theorem walk (n : Int) (w : World) :
    Calls Try.prog 4 #[.int .i64 n] w fun e w' => e = .returned (.bool true) ∧ Below w.heap.size w w' := by
  go_enter Try.func4, Try.ntmps4
  go_wp2_with fail
  go_loopw [4] (fun i wr => ∃ k : Nat, k ≤ 2 ∧ i = .int .i64 (k : Int) ∧ Blk wr w.heap.size 41 box ∧ Blk wr (w.heap.size + 1) 23 (pair w.heap.size) ∧ Below w.heap.size w wr) (fun i _ => 2 - (intOf i).toNat)
  case atStart =>
    refine ⟨0, by omega, rfl, ?_, ?_, ?_⟩
    · exact (Blk.new w 41 box).alloc _
    · have := Blk.new (w.alloc (.cells box 41)) 23 (pair w.heap.size)
      rw [World.size_alloc] at this
      exact this
    · exact ((Below.refl _ _).alloc (Nat.le_refl _) _).alloc (by simp) _
  case round =>
    obtain ⟨k, hk, rfl, hB, hP, hb⟩ := hrel
    have m0 : wr.cell? ⟨w.heap.size, 0, none⟩ = some (.map none) := by rw [hB.cell]; rfl
    have q0 : wr.cell? ⟨w.heap.size + 1, 0, none⟩ = some (.pointer none) := by rw [hP.cell]; rfl
    have q1 : wr.cell? ⟨w.heap.size + 1, 1, none⟩ = some (.pointer (some ⟨w.heap.size, 0, none⟩)) := by rw [hP.cell]; rfl
    have N0 := Lib.hid (show NoCt wr none from .inl rfl)
    have N1 := Lib.hid (show NoCt wr (some ⟨w.heap.size, 0, none⟩) from .inr ⟨_, rfl, m0⟩)
    have HB := Lib.hid hB
    have HP := Lib.hid hP
    clear hB hP m0
    have hk3 : k = 0 ∨ k = 1 ∨ k = 2 := by omega
    rcases hk3 with rfl | rfl | rfl
    · go_wp2_with (first
        | (go_at_call 17; refine (release_none _ _ _ N0.out).mono ?_; rintro e w3 ⟨rfl, rfl⟩)
        | (go_at_call 18; refine (drop_none _ _ _ N0.out).mono ?_; rintro e w3 ⟨rfl, rfl⟩)
        | (go_at_call 19; refine (add_none _ _ _ N0.out).mono ?_; rintro e w3 ⟨rfl, rfl⟩)
        | (go_at_call 9; refine (of_none _ _ _ N0.out).mono ?_; rintro e w3 ⟨rfl, rfl⟩)
        | (go_at_call 11; refine (total_none _ _ N0.out).mono ?_; rintro e w3 ⟨rfl, rfl⟩)
        | (go_at_call 12; refine (holders_none _ _ N0.out).mono ?_; rintro e w3 ⟨rfl, rfl⟩))
      go_roundw
      case rel => exact ⟨1, by omega, by go_num, HB.out, HP.out, hb⟩
      case measure => simp [intOf]
    · go_wp2_with (first
        | (go_at_call 17; refine (release_none _ _ _ N1.out).mono ?_; rintro e w3 ⟨rfl, rfl⟩)
        | (go_at_call 18; refine (drop_none _ _ _ N1.out).mono ?_; rintro e w3 ⟨rfl, rfl⟩)
        | (go_at_call 19; refine (add_none _ _ _ N1.out).mono ?_; rintro e w3 ⟨rfl, rfl⟩)
        | (go_at_call 9; refine (of_none _ _ _ N1.out).mono ?_; rintro e w3 ⟨rfl, rfl⟩)
        | (go_at_call 11; refine (total_none _ _ N1.out).mono ?_; rintro e w3 ⟨rfl, rfl⟩)
        | (go_at_call 12; refine (holders_none _ _ N1.out).mono ?_; rintro e w3 ⟨rfl, rfl⟩))
      go_roundw
      case rel => exact ⟨2, by omega, by go_num, HB.out, HP.out, hb⟩
      case measure => simp [intOf]
    · go_wp2_with (go_at_call 16; refine (awake_any _).mono ?_; rintro e w3 ⟨rfl, hb3⟩; have hb4 := hb.trans (hb3.mono hb.size); clear hb3)
      go_ret
      exact ⟨ret1_b rfl, hb4⟩

theorem contract {H : Type} {enc : TypeId × Value → H} (W : World) {base : Nat} {r : Reach} {b : Nat} {sp : Nat → Bool} {hd : Bool} {v0 : Value} {d0 : DataW H} {p0 : List MemPlace}
    (o0 : Value.okWide Try.prog W r b 3 v0) (h0 : DataW.Trod enc Try.prog W base sp hd 3 v0 d0 p0) {Q R : Prop} (_ : Q) (_ : R) :
    Calls Try.prog 4 #[v0] W fun e w' => e = .returned (.bool true) ∧ Below W.heap.size W w' := by
  obtain ⟨a0, rfl, _, _, w0⟩ := open_int Try.underlying3 o0 h0
  exact walk a0 W

theorem own : ownKnob Try.prog.godebug = none := by kernel_rfl
theorem laidOut : laidOutB Try.prog = true := by kernel_rfl
theorem readable : ∀ t ∈ Try.f4.params.toList, Try.prog.readableRec t = true ∧ t < Try.prog.types.size := by
  rw [show Try.f4.params = #[3] from Try.params4]
  intro t h
  simp only [List.mem_cons, List.not_mem_nil, or_false] at h
  subst h
  exact ⟨by kernel_rfl, of_decide_eq_true (by kernel_rfl)⟩
set_option maxRecDepth 100000 in
theorem lifted (os : Os) (started : os.Started) (H : Type) (enc : TypeId × Value → H) :
    ReturnsInHanded {} Try.checked os 4 .any (Rows.fixNoneSpec.pre6 enc Try.prog Try.f4 Rows.fixNoneRow.domain false) (Rows.fixNoneSpec.post enc Try.prog Try.f4 false true false false) := by
  refine K.law_lift (C := Try.checked) (b := 4) own started (by kernel_rfl) Try.func4
    (ChangeSpec.witness6 (enc := enc) (C := Try.checked) false ⟨#[], #[.int .i64 0], []⟩ 8 (by kernel_rfl) (by kernel_rfl) (by kernel_rfl) (by kernel_rfl)) laidOut readable rfl rfl Try.underlying4 ?_ ?_
  · intro ds hds
    rw [show Try.f4.params = #[3] from Try.params4] at hds
    match ds, hds with
    | [d0], _ => rfl
  · intro W base args ds p hval hA hlt hsz
    rw [show Try.checked.prog = Try.prog from rfl] at hval hA hsz
    rw [show Try.f4.params = #[3] from Try.params4] at hA hval hsz
    obtain ⟨v0, vs0, d0, ds0, p0, q0, hargs, rfl, rfl, h0, r0⟩ := trodAll_cons hA
    obtain ⟨rfl, rfl, rfl⟩ := trodAll_nil r0
    obtain rfl : args = #[v0] := by cases args; simp_all
    exact contract W (hval 0 3 v0 rfl rfl) h0 (fun x hx => hlt x hx) hsz

theorem over : Rows.fixNoneRow.holds Try.pinned (OpenSpec.ofChange Rows.fixNoneSpec) :=
  OpenClaim.holds_of_wide 4 Try.f4 rfl rfl rfl rfl rfl rfl rfl ⟨rfl, rfl, rfl, rfl, rfl⟩ rfl rfl rfl rfl rfl (by kernel_rfl) Try.func4 (by kernel_rfl)
    (of_decide_eq_true (by kernel_rfl)) (by unfold Func.isWrapper; rw [if_neg (of_decide_eq_false (by kernel_rfl))]; exact ⟨rfl, rfl⟩)
    (fun os started H enc _ => lifted os started H enc)

/-- THE STATEMENT -/
theorem proved : Rows.FixNoneSaid := over
#print axioms proved

end Go.Proofs.Ytbldebjdgenfdaa.FixNone
