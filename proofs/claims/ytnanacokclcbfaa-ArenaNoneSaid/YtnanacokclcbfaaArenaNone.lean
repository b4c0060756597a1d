/- The law ArenaNone returns true for every input: an arena that is nil, or that nobody made, answers ErrNil and tells nothing. -/
import Derived.Test.YtnanacokclcbfaaArenaNo
import Derived.Test.YtnanacokclcbfaaOpen
namespace Go.Proofs.Ytnanacokclcbfaa.ArenaNone
open Go.RowKit K Ar
open Go.ChangeShapes Go.WideShapes Go.ChangeAt
set_option linter.unusedVariables false
set_option linter.unusedSimpArgs false

def box : Array Value := #[.int .i64 0, .int .i64 0, .int .i64 0, .map none]
def pair (g : Nat) : Array Value := #[.pointer none, .pointer (some ⟨g, 0, none⟩)]

set_option maxRecDepth 100000 in
set_option maxHeartbeats 8000000 in
theorem walk (A : Option Addr) (m c : Nat) (n : Int) (hm : m ≤ maxLen) (w : World) :
    Calls Try.prog 7 #[.slice A m c, .int .i64 n] w fun e w' => e = .returned (.bool true) ∧ Below w.heap.size w w' := by
  have hs2 : m ≤ 9223372036854775807 := by unfold maxLen at hm; exact hm
  have h100 : m ≤ 100 ∨ 100 < m := by omega
  have H1 := Lib.hid h100
  clear h100
  go_enter Try.func7, Try.ntmps7
  go_wp2_with fail
  go_loopw [6] (fun i wr => ∃ k : Nat, k ≤ 2 ∧ i = .int .i64 (k : Int) ∧ Blk wr w.heap.size 51 box ∧ Blk wr (w.heap.size + 1) 25 (pair w.heap.size) ∧ Below w.heap.size w wr) (fun i _ => 2 - (intOf i).toNat)
  case atStart =>
    refine ⟨0, by omega, rfl, ?_, ?_, ?_⟩
    · exact (Blk.new w 51 box).alloc _
    · have := Blk.new (w.alloc (.cells box 51)) 25 (pair w.heap.size)
      rw [World.size_alloc] at this
      exact this
    · exact ((Below.refl _ _).alloc (Nat.le_refl _) _).alloc (by simp) _
  case round =>
    obtain ⟨k, hk, rfl, hB, hP, hb⟩ := hrel
    have m0 : wr.cell? ⟨w.heap.size, 3, none⟩ = some (.map none) := by rw [hB.cell]; rfl
    have q0 : wr.cell? ⟨w.heap.size + 1, 0, none⟩ = some (.pointer none) := by rw [hP.cell]; rfl
    have q1 : wr.cell? ⟨w.heap.size + 1, 1, none⟩ = some (.pointer (some ⟨w.heap.size, 0, none⟩)) := by rw [hP.cell]; rfl
    have N0 := Lib.hid (show NoAr wr none from .inl rfl)
    have N1 := Lib.hid (show NoAr wr (some ⟨w.heap.size, 0, none⟩) from .inr ⟨_, rfl, m0⟩)
    have s1 := hP.lt
    have HB := Lib.hid hB
    have HP := Lib.hid hP
    clear hB hP
    rcases H1.out with hle | hgt
    · have hk3 : k = 0 ∨ k = 1 ∨ k = 2 := by omega
      rcases hk3 with rfl | rfl | rfl
      · go_wp2_with (first
          | (go_at_call 14; refine (take_none _ _ _ _ hm _ N0.out).mono ?_; rintro e w3 ⟨rfl, rfl⟩)
          | fail)
        refine (get_none _ _ _ N0.out).mono ?_
        rintro e w3 ⟨v3, rfl, hb3⟩
        have N2 := Lib.hid (show NoAr w3 none from .inl rfl)
        have p0 : w3.cell? ⟨w.heap.size + 1, 0, none⟩ = some (.pointer none) := (hb3.cell (p := ⟨w.heap.size + 1, 0, none⟩) s1).trans q0
        clear q0 q1 m0
        go_wp2_with (first
          | (go_at_call 19; refine (set_none _ _ _ _ _ _ N2.out).mono ?_; rintro e w4 ⟨rfl, rfl⟩)
          | (go_at_call 15; refine (drop_none _ _ _ N2.out).mono ?_; rintro e w4 ⟨rfl, rfl⟩)
          | (go_at_call 22; refine (left_none _ _ N2.out).mono ?_; rintro e w4 ⟨rfl, rfl⟩)
          | (go_at_call 23; refine (used_none _ _ N2.out).mono ?_; rintro e w4 ⟨rfl, rfl⟩)
          | (go_at_call 17; refine (blocks_none _ _ N2.out).mono ?_; rintro e w4 ⟨rfl, rfl⟩))
        go_roundw
        case rel => exact ⟨1, by omega, by go_num, HB.out.below hb3 (by omega), HP.out.below hb3 s1, hb.trans (hb3.mono hb.size)⟩
        case measure => simp [intOf]
      · go_wp2_with (first
          | (go_at_call 14; refine (take_none _ _ _ _ hm _ N1.out).mono ?_; rintro e w3 ⟨rfl, rfl⟩)
          | fail)
        refine (get_none _ _ _ N1.out).mono ?_
        rintro e w3 ⟨v3, rfl, hb3⟩
        have s0 : w.heap.size < wr.heap.size := by omega
        have N2 := Lib.hid (show NoAr w3 (some ⟨w.heap.size, 0, none⟩) from .inr ⟨_, rfl, (hb3.cell (p := ⟨w.heap.size, 3, none⟩) s0).trans m0⟩)
        have p0 : w3.cell? ⟨w.heap.size + 1, 1, none⟩ = some (.pointer (some ⟨w.heap.size, 0, none⟩)) := (hb3.cell (p := ⟨w.heap.size + 1, 1, none⟩) s1).trans q1
        clear q0 q1 m0
        go_wp2_with (first
          | (go_at_call 19; refine (set_none _ _ _ _ _ _ N2.out).mono ?_; rintro e w4 ⟨rfl, rfl⟩)
          | (go_at_call 15; refine (drop_none _ _ _ N2.out).mono ?_; rintro e w4 ⟨rfl, rfl⟩)
          | (go_at_call 22; refine (left_none _ _ N2.out).mono ?_; rintro e w4 ⟨rfl, rfl⟩)
          | (go_at_call 23; refine (used_none _ _ N2.out).mono ?_; rintro e w4 ⟨rfl, rfl⟩)
          | (go_at_call 17; refine (blocks_none _ _ N2.out).mono ?_; rintro e w4 ⟨rfl, rfl⟩))
        go_roundw
        case rel => exact ⟨2, by omega, by go_num, HB.out.below hb3 (by omega), HP.out.below hb3 s1, hb.trans (hb3.mono hb.size)⟩
        case measure => simp [intOf]
      · clear q0 q1 m0
        go_wp2_with (go_at_call 11; refine (awake_any _).mono ?_; rintro e w3 ⟨rfl, hb3⟩; have hb4 := hb.trans (hb3.mono hb.size); clear hb3)
        go_ret
        exact ⟨ret1_b rfl, hb4⟩
    · clear q0 q1 m0
      go_wp2_with (go_at_call 11; refine (awake_any _).mono ?_; rintro e w3 ⟨rfl, hb3⟩; have hb4 := hb.trans (hb3.mono hb.size); clear hb3)
      all_goals
        go_ret
        exact ⟨ret1_b rfl, hb4⟩

theorem contract {H : Type} {enc : TypeId × Value → H} (W : World) {base : Nat} {r : Reach} {b : Nat} {hd : Bool} {v0 v1 : Value} {d0 d1 : DataW H} {p0 p1 : List MemPlace}
    (o0 : Value.okWide Try.prog W r b 32 v0) (h0 : DataW.Trod enc Try.prog W base (fun _ => true) hd 32 v0 d0 p0)
    (o1 : Value.okWide Try.prog W r b 3 v1) (h1 : DataW.Trod enc Try.prog W base (fun _ => true) hd 3 v1 d1 p1) {Q R : Prop} (_ : Q) (_ : R) :
    Calls Try.prog 7 #[v0, v1] W fun e w' => e = .returned (.bool true) ∧ Below W.heap.size W w' := by
  obtain ⟨A, c, zs, rfl, hx, hw, l1, l2, _⟩ := open_ints_arg Try.underlying32 Try.underlying68 (by kernel_rfl) o0 h0
  obtain ⟨a1, rfl, _, _, w1⟩ := open_int Try.underlying3 o1 h1
  exact walk A zs.length c a1 (by omega) W

theorem own : ownKnob Try.prog.godebug = none := by kernel_rfl
theorem laidOut : laidOutB Try.prog = true := by kernel_rfl
theorem readable : ∀ t ∈ Try.f7.params.toList, Try.prog.readableRec t = true ∧ t < Try.prog.types.size := by
  rw [show Try.f7.params = #[32, 3] from Try.params7]
  intro t h
  simp only [List.mem_cons, List.not_mem_nil, or_false] at h
  rcases h with rfl | rfl
  · exact ⟨by kernel_rfl, of_decide_eq_true (by kernel_rfl)⟩
  · exact ⟨by kernel_rfl, of_decide_eq_true (by kernel_rfl)⟩
set_option maxRecDepth 100000 in
theorem lifted (os : Os) (started : os.Started) (H : Type) (enc : TypeId × Value → H) :
    ReturnsInHanded {} Try.checked os 7 .any (Rows.arenaNoneSpec.pre6 enc Try.prog Try.f7 Rows.arenaNoneRow.domain false) (Rows.arenaNoneSpec.post enc Try.prog Try.f7 false true false false) := by
  refine K.law_lift (C := Try.checked) (b := 4) own started (by kernel_rfl) Try.func7
    (ChangeSpec.witness6 (enc := enc) (C := Try.checked) false ⟨#[], #[.slice none 0 0, .int .i64 0], []⟩ 8 (by kernel_rfl) (by kernel_rfl) (by kernel_rfl) (by kernel_rfl)) laidOut readable rfl rfl Try.underlying4 ?_ ?_
  · intro ds hds
    rw [show Try.f7.params = #[32, 3] from Try.params7] at hds
    match ds, hds with
    | [d0, d1], _ => rfl
  · intro W base args ds p hval hA hlt hsz
    rw [show Try.checked.prog = Try.prog from rfl] at hval hA hsz
    rw [show Try.f7.params = #[32, 3] from Try.params7] at hA hval hsz
    obtain ⟨v0, vs0, d0, ds0, p0, q0, hargs, rfl, rfl, h0, r0⟩ := trodAll_cons hA
    obtain ⟨v1, vs1, d1, ds1, p1, q1, rfl, rfl, rfl, h1, r1⟩ := trodAll_cons r0
    obtain ⟨rfl, rfl, rfl⟩ := trodAll_nil r1
    obtain rfl : args = #[v0, v1] := by cases args; simp_all
    exact contract W (hval 0 32 v0 rfl rfl) h0 (hval 1 3 v1 rfl rfl) h1 (fun x hx => hlt x hx) hsz

theorem over : Rows.arenaNoneRow.holds Try.pinned (OpenSpec.ofChange Rows.arenaNoneSpec) :=
  OpenClaim.holds_of_wide 7 Try.f7 rfl rfl rfl rfl rfl rfl rfl ⟨rfl, rfl, rfl, rfl, rfl⟩ rfl rfl rfl rfl rfl (by kernel_rfl) Try.func7 (by kernel_rfl)
    (of_decide_eq_true (by kernel_rfl)) (by unfold Func.isWrapper; rw [if_neg (of_decide_eq_false (by kernel_rfl))]; exact ⟨rfl, rfl⟩)
    (fun os started H enc _ => lifted os started H enc)

/-- THE STATEMENT -/
theorem proved : Rows.ArenaNoneSaid := over
#print axioms proved

end Go.Proofs.Ytnanacokclcbfaa.ArenaNone
