/- The law LinhashNone returns true for every input: buckets that are nil, or that nobody made, answer ErrNil, and tell nothing. -/
import Derived.Test.YtjipncpplpfobaaLaw10
namespace Go.Proofs.Ytjipncpplpfobaa.LinhashNone
open Go.RowKit K Hs Lb
open Go.ChangeShapes Go.WideShapes Go.ChangeAt
set_option linter.unusedVariables false
set_option linter.unusedSimpArgs false

/-- A pointer to no buckets: nil, or a block whose rows are nil. -/
def NoLb (w : World) (p : Option Addr) : Prop := p = none ∨ ∃ g, p = some ⟨g, 0, none⟩ ∧ w.cell? ⟨g, 2, none⟩ = some (.slice none 0 0)
theorem none_yes (p : Option Addr) (w : World) (h : NoLb w p) :
    Calls Try.prog 37 #[.pointer p] w fun e w' => e = .returned (.bool true) ∧ w = w' := by
  rcases h with rfl | ⟨g, rfl, hc⟩
  · go_enter Try.func37, Try.ntmps37
    go_wp2
    go_ret
    exact ⟨ret1_b rfl, rfl⟩
  · have hm := fun (w : World) => Lib.run_eql_slice_nil (P := Try.prog) w 37 43 none 0 0 0 0 Try.underlying37
    go_enter Try.func37, Try.ntmps37
    go_wp2
    go_ret
    exact ⟨ret1_b rfl, rfl⟩
theorem add_none (p : Option Addr) (h n : Int) (w : World) (hp : NoLb w p) : Calls Try.prog 12 #[.pointer p, .int .u32 h, .int .i64 n] w fun e w' => e = .returned (.tuple #[.int .i64 0, .int .i64 1]) ∧ w = w' := by
  have H := Lib.hid hp; clear hp
  go_enter Try.func12, Try.ntmps12
  go_wp2_with (first | (go_at_call 37; refine (none_yes p _ H.out).mono ?_; rintro e w1 ⟨rfl, rfl⟩) | fail)
  go_ret2
  exact ⟨rfl, rfl⟩
theorem at_none (p : Option Addr) (n : Int) (w : World) (hp : NoLb w p) : Calls Try.prog 13 #[.pointer p, .int .i64 n] w fun e w' => e = .returned (.tuple #[.slice none 0 0, .int .i64 1]) ∧ w = w' := by
  have H := Lib.hid hp; clear hp
  go_enter Try.func13, Try.ntmps13
  go_wp2_with (first | (go_at_call 37; refine (none_yes p _ H.out).mono ?_; rintro e w1 ⟨rfl, rfl⟩) | fail)
  go_ret2
  exact ⟨rfl, rfl⟩
theorem rem_none (p : Option Addr) (h n : Int) (w : World) (hp : NoLb w p) : Calls Try.prog 14 #[.pointer p, .int .u32 h, .int .i64 n] w fun e w' => e = .returned (.bool false) ∧ w = w' := by
  have H := Lib.hid hp; clear hp
  go_enter Try.func14, Try.ntmps14
  go_wp2_with (first | (go_at_call 37; refine (none_yes p _ H.out).mono ?_; rintro e w1 ⟨rfl, rfl⟩) | fail)
  go_ret
  exact ⟨rfl, rfl⟩
theorem chain_none (p : Option Addr) (h : Int) (w : World) (hp : NoLb w p) : Calls Try.prog 15 #[.pointer p, .int .u32 h] w fun e w' => e = .returned (.slice none 0 0) ∧ w = w' := by
  have H := Lib.hid hp; clear hp
  go_enter Try.func15, Try.ntmps15
  go_wp2_with (first | (go_at_call 37; refine (none_yes p _ H.out).mono ?_; rintro e w1 ⟨rfl, rfl⟩) | fail)
  go_ret
  exact ⟨rfl, rfl⟩
theorem len_none (p : Option Addr) (w : World) (hp : NoLb w p) : Calls Try.prog 16 #[.pointer p] w fun e w' => e = .returned (.int .i64 0) ∧ w = w' := by
  have H := Lib.hid hp; clear hp
  go_enter Try.func16, Try.ntmps16
  go_wp2_with (first | (go_at_call 37; refine (none_yes p _ H.out).mono ?_; rintro e w1 ⟨rfl, rfl⟩) | fail)
  go_ret
  exact ⟨rfl, rfl⟩
theorem count_none (p : Option Addr) (w : World) (hp : NoLb w p) : Calls Try.prog 17 #[.pointer p] w fun e w' => e = .returned (.int .i64 0) ∧ w = w' := by
  have H := Lib.hid hp; clear hp
  go_enter Try.func17, Try.ntmps17
  go_wp2_with (first | (go_at_call 37; refine (none_yes p _ H.out).mono ?_; rintro e w1 ⟨rfl, rfl⟩) | fail)
  go_ret
  exact ⟨rfl, rfl⟩
theorem wants_none (p : Option Addr) (w : World) (hp : NoLb w p) : Calls Try.prog 18 #[.pointer p] w fun e w' => e = .returned (.int .i64 0) ∧ w = w' := by
  have H := Lib.hid hp; clear hp
  go_enter Try.func18, Try.ntmps18
  go_wp2_with (first | (go_at_call 37; refine (none_yes p _ H.out).mono ?_; rintro e w1 ⟨rfl, rfl⟩) | fail)
  go_ret
  exact ⟨rfl, rfl⟩
theorem split_none (p : Option Addr) (w : World) (hp : NoLb w p) : Calls Try.prog 19 #[.pointer p] w fun e w' => e = .returned (.int .i64 1) ∧ w = w' := by
  have H := Lib.hid hp; clear hp
  go_enter Try.func19, Try.ntmps19
  go_wp2_with (first | (go_at_call 37; refine (none_yes p _ H.out).mono ?_; rintro e w1 ⟨rfl, rfl⟩) | fail)
  go_ret
  exact ⟨rfl, rfl⟩
theorem join_none (p : Option Addr) (w : World) (hp : NoLb w p) : Calls Try.prog 20 #[.pointer p] w fun e w' => e = .returned (.int .i64 1) ∧ w = w' := by
  have H := Lib.hid hp; clear hp
  go_enter Try.func20, Try.ntmps20
  go_wp2_with (first | (go_at_call 37; refine (none_yes p _ H.out).mono ?_; rintro e w1 ⟨rfl, rfl⟩) | fail)
  go_ret
  exact ⟨rfl, rfl⟩

def box : Array Value := #[.int .i64 0, .int .i64 0, .slice none 0 0]
def pair (g : Nat) : Array Value := #[.pointer none, .pointer (some ⟨g, 0, none⟩)]
set_option maxRecDepth 100000 in
set_option maxHeartbeats 16000000 in
theorem walk (h n : Int) (w : World) : Calls Try.prog 4 #[.int .u32 h, .int .i64 n] w fun e w' => e = .returned (.bool true) ∧ Below w.heap.size w w' := by
  go_enter Try.func4, Try.ntmps4
  go_wp2_with fail
  go_loopw [6] (fun i wr => ∃ k : Nat, k ≤ 2 ∧ i = .int .i64 (k : Int) ∧ Blk wr w.heap.size 39 box ∧ Blk wr (w.heap.size + 1) 23 (pair w.heap.size) ∧ Below w.heap.size w wr) (fun i _ => 2 - (intOf i).toNat)
  case atStart =>
    refine ⟨0, by omega, rfl, ?_, ?_, ?_⟩
    · exact (Blk.new w 39 box).alloc _
    · have := Blk.new (w.alloc (.cells box 39)) 23 (pair w.heap.size)
      rw [World.size_alloc] at this
      exact this
    · exact ((Below.refl _ _).alloc (Nat.le_refl _) _).alloc (by simp) _
  case round =>
    obtain ⟨k, hk, rfl, hB, hP, hb⟩ := hrel
    have m0 : wr.cell? ⟨w.heap.size, 2, none⟩ = some (.slice none 0 0) := by rw [hB.cell]; rfl
    have q0 : wr.cell? ⟨w.heap.size + 1, 0, none⟩ = some (.pointer none) := by rw [hP.cell]; rfl
    have q1 : wr.cell? ⟨w.heap.size + 1, 1, none⟩ = some (.pointer (some ⟨w.heap.size, 0, none⟩)) := by rw [hP.cell]; rfl
    have N0 := Lib.hid (show NoLb wr none from .inl rfl)
    have N1 := Lib.hid (show NoLb wr (some ⟨w.heap.size, 0, none⟩) from .inr ⟨_, rfl, m0⟩)
    have HB := Lib.hid hB
    have HP := Lib.hid hP
    have HBB := Lib.hid hb
    clear hB hP hb m0
    have hk3 : k = 0 ∨ k = 1 ∨ k = 2 := by omega
    rcases hk3 with rfl | rfl | rfl
    · clear q1
      go_wp2_with (first
        | (go_at_call 12; refine (add_none _ _ _ _ N0.out).mono ?_; rintro e w4 ⟨rfl, rfl⟩)
        | (go_at_call 13; refine (at_none _ _ _ N0.out).mono ?_; rintro e w4 ⟨rfl, rfl⟩)
        | (go_at_call 14; refine (rem_none _ _ _ _ N0.out).mono ?_; rintro e w4 ⟨rfl, rfl⟩)
        | (go_at_call 15; refine (chain_none _ _ _ N0.out).mono ?_; rintro e w4 ⟨rfl, rfl⟩)
        | (go_at_call 16; refine (len_none _ _ N0.out).mono ?_; rintro e w4 ⟨rfl, rfl⟩)
        | (go_at_call 17; refine (count_none _ _ N0.out).mono ?_; rintro e w4 ⟨rfl, rfl⟩)
        | (go_at_call 18; refine (wants_none _ _ N0.out).mono ?_; rintro e w4 ⟨rfl, rfl⟩)
        | (go_at_call 19; refine (split_none _ _ N0.out).mono ?_; rintro e w4 ⟨rfl, rfl⟩)
        | (go_at_call 20; refine (join_none _ _ N0.out).mono ?_; rintro e w4 ⟨rfl, rfl⟩)
        | fail)
      go_roundw
      case rel => exact ⟨1, by omega, by go_num, HB.out, HP.out, HBB.out⟩
      case measure => simp [intOf]
    · clear q0
      go_wp2_with (first
        | (go_at_call 12; refine (add_none _ _ _ _ N1.out).mono ?_; rintro e w4 ⟨rfl, rfl⟩)
        | (go_at_call 13; refine (at_none _ _ _ N1.out).mono ?_; rintro e w4 ⟨rfl, rfl⟩)
        | (go_at_call 14; refine (rem_none _ _ _ _ N1.out).mono ?_; rintro e w4 ⟨rfl, rfl⟩)
        | (go_at_call 15; refine (chain_none _ _ _ N1.out).mono ?_; rintro e w4 ⟨rfl, rfl⟩)
        | (go_at_call 16; refine (len_none _ _ N1.out).mono ?_; rintro e w4 ⟨rfl, rfl⟩)
        | (go_at_call 17; refine (count_none _ _ N1.out).mono ?_; rintro e w4 ⟨rfl, rfl⟩)
        | (go_at_call 18; refine (wants_none _ _ N1.out).mono ?_; rintro e w4 ⟨rfl, rfl⟩)
        | (go_at_call 19; refine (split_none _ _ N1.out).mono ?_; rintro e w4 ⟨rfl, rfl⟩)
        | (go_at_call 20; refine (join_none _ _ N1.out).mono ?_; rintro e w4 ⟨rfl, rfl⟩)
        | fail)
      go_roundw
      case rel => exact ⟨2, by omega, by go_num, HB.out, HP.out, HBB.out⟩
      case measure => simp [intOf]
    · clear q0 q1
      go_wp2_with fail
      refine (awake_any _).mono ?_
      rintro e w2 ⟨rfl, hb2⟩
      have HB2 := Lib.hid (HBB.out.trans (hb2.mono HBB.out.size))
      clear hb2
      go_wp2_with fail
      go_ret
      exact ⟨ret1_b rfl, HB2.out⟩

theorem contract {H : Type} {enc : TypeId × Value → H} (W : World) {base : Nat} {r : Reach} {b : Nat} {sp : Nat → Bool} {hd : Bool} {v0 v1 : Value} {d0 d1 : DataW H} {p0 p1 : List MemPlace}
    (o0 : Value.okWide Try.prog W r b 32 v0) (h0 : DataW.Trod enc Try.prog W base sp hd 32 v0 d0 p0) (o1 : Value.okWide Try.prog W r b 3 v1) (h1 : DataW.Trod enc Try.prog W base sp hd 3 v1 d1 p1) {Q R : Prop} (_ : Q) (_ : R) :
    Calls Try.prog 4 #[v0, v1] W fun e w' => e = .returned (.bool true) ∧ Below W.heap.size W w' := by
  obtain ⟨a0, rfl, _, _, w0⟩ := open_int Try.underlying32 o0 h0
  obtain ⟨a1, rfl, _, _, w1⟩ := open_int Try.underlying3 o1 h1
  exact walk a0 a1 W


theorem own : ownKnob Try.prog.godebug = none := by kernel_rfl
theorem laidOut : laidOutB Try.prog = true := by kernel_rfl
theorem readable : ∀ t ∈ Try.f4.params.toList, Try.prog.readableRec t = true ∧ t < Try.prog.types.size := by
  rw [show Try.f4.params = #[32, 3] from Try.params4]
  intro t h
  simp only [List.mem_cons, List.not_mem_nil, or_false] at h
  rcases h with rfl | rfl
  · exact ⟨by kernel_rfl, of_decide_eq_true (by kernel_rfl)⟩
  · exact ⟨by kernel_rfl, of_decide_eq_true (by kernel_rfl)⟩
set_option maxRecDepth 100000 in
theorem lifted (os : Os) (started : os.Started) (H : Type) (enc : TypeId × Value → H) :
    ReturnsInHanded {} Try.checked os 4 .any (Rows.linhashNoneSpec.pre6 enc Try.prog Try.f4 Rows.linhashNoneRow.domain false) (Rows.linhashNoneSpec.post enc Try.prog Try.f4 false true false false) := by
  refine K.law_lift (C := Try.checked) (b := 4) own started (by kernel_rfl) Try.func4
    (ChangeSpec.witness6 (enc := enc) (C := Try.checked) false ⟨#[], #[.int .u32 0, .int .i64 0], []⟩ 8 (by kernel_rfl) (by kernel_rfl) (by kernel_rfl) (by kernel_rfl)) laidOut readable rfl rfl Try.underlying4 ?_ ?_
  · intro ds hds
    rw [show Try.f4.params = #[32, 3] from Try.params4] at hds
    match ds, hds with
    | [d0, d1], _ => rfl
  · intro W base args ds p hval hA hlt hsz
    rw [show Try.checked.prog = Try.prog from rfl] at hval hA hsz
    rw [show Try.f4.params = #[32, 3] from Try.params4] at hA hval hsz
    obtain ⟨v0, vs0, d0, ds0, p0, q0, hargs, rfl, rfl, h0, r0⟩ := trodAll_cons hA
    obtain ⟨v1, vs1, d1, ds1, p1, q1, rfl, rfl, rfl, h1, r1⟩ := trodAll_cons r0
    obtain ⟨rfl, rfl, rfl⟩ := trodAll_nil r1
    obtain rfl : args = #[v0, v1] := by cases args; simp_all
    exact contract W (hval 0 32 v0 rfl rfl) h0 (hval 1 3 v1 rfl rfl) h1 (fun x hx => hlt x hx) hsz

theorem over : Rows.linhashNoneRow.holds Try.pinned (OpenSpec.ofChange Rows.linhashNoneSpec) :=
  OpenClaim.holds_of_wide 4 Try.f4 rfl rfl rfl rfl rfl rfl rfl ⟨rfl, rfl, rfl, rfl, rfl⟩ rfl rfl rfl rfl rfl (by kernel_rfl) Try.func4 (by kernel_rfl)
    (of_decide_eq_true (by kernel_rfl)) (by unfold Func.isWrapper; rw [if_neg (of_decide_eq_false (by kernel_rfl))]; exact ⟨rfl, rfl⟩)
    (fun os started H enc _ => lifted os started H enc)

/-- THE STATEMENT -/
theorem proved : Rows.LinhashNoneSaid := over
#print axioms proved
end Go.Proofs.Ytjipncpplpfobaa.LinhashNone
