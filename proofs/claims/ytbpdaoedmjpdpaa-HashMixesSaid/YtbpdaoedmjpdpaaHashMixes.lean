/- The law HashMixes returns true for any hash, bytes, number of buckets. -/
import Derived.Test.YtbpdaoedmjpdpaaRefMix
import Derived.Test.YtbpdaoedmjpdpaaLent
import Derived.Test.YtbpdaoedmjpdpaaLaw04
import Derived.Test.YtbpdaoedmjpdpaaOpen
namespace Go.Proofs.Ytbpdaoedmjpdpaa.HashMixes
open Go.RowKit K Hs
open Go.ChangeShapes Go.WideShapes Go.ChangeAt
set_option linter.unusedVariables false
set_option linter.unusedSimpArgs false

set_option maxRecDepth 100000 in
set_option maxHeartbeats 4000000 in
theorem walk (h n : Int) (bs : List B8) (A : Option Addr) (c : Nat) (w : World) (h0 : 0 ≤ h) (h1 : h ≤ 4294967295) (hr : Reads w w.heap.size 1 A bs.length (encs8 bs)) (hlen : bs.length ≤ maxLen) :
    Calls Try.prog 3 #[.int .u32 h, .slice A bs.length c, .int .i64 n] w fun e w' => e = .returned (.bool true) ∧ Below w.heap.size w w' := by
  unfold maxLen at hlen
  by_cases hl : 1000 < bs.length
  · have hl2 : (1000 : Int) < (bs.length : Int) := by omega
    go_enter Try.func3, Try.ntmps3
    go_wp2_with fail
    go_ret
    exact ⟨rfl, Below.refl _ _⟩
  have hl2 : bs.length ≤ 1000 := by omega
  have HR := Lib.hid hr
  have HA := Lib.hid (fun w => awake_any w)
  have HB := Lib.hid (fun w => bucket_any h n w h0 h1)
  have HRB := Lib.hid (fun w => rbucket_any h n w h0 h1)
  obtain ⟨x, hx⟩ : ∃ x, bktV h n = x := ⟨_, rfl⟩
  obtain ⟨y, hy⟩ : ∃ x, bktE n = x := ⟨_, rfl⟩
  obtain ⟨m, hm⟩ : ∃ x, mixL h bs = x := ⟨_, rfl⟩
  have HM := Lib.hid hm
  rw [hx, hy] at HB HRB
  clear hr hx hy hl hm
  go_enter Try.func3, Try.ntmps3
  go_wp2_with fail
  refine (lent_any bs _ A c _ HR.out (Nat.le_refl _) hl2).mono ?_
  rintro e w1 ⟨rfl, hg1, hb1⟩
  have HG1 := Lib.hid hg1
  have HB1 := Lib.hid hb1
  clear hg1 hb1
  go_wp2_with fail
  refine (HB.out _).mono ?_
  rintro e w2 ⟨rfl, rfl⟩
  go_wp2_with fail
  refine (HRB.out _).mono ?_
  rintro e w2 ⟨rfl, rfl⟩
  go_wp2_with fail
  have hrl := blk_reads (n := bs.length) HG1.out (by rw [lent_len]; omega)
  rw [show (lentL bs).take bs.length = bs from by unfold lentL; exact List.take_left' rfl] at hrl
  refine (mix_any bs h _ _ _ _ ⟨h0, h1⟩ hrl (by omega)).mono ?_
  rintro e w2 ⟨rfl, rfl⟩
  rw [HM.out]
  clear hrl
  go_wp2_with fail
  refine (rmix_any bs h _ _ _ _ ⟨h0, h1⟩ (HR.out.below HB1.out) (by omega)).mono ?_
  rintro e w2 ⟨rfl, rfl⟩
  rw [HM.out]
  go_wp2_with fail
  refine (kept_any bs _ A c _ HG1.out ((HR.out.below HB1.out).more HB1.out.size) hl2).mono ?_
  rintro e w2 ⟨rfl, hb2⟩
  have HB2 := Lib.hid (bnext HB1.out hb2)
  clear hb2
  go_wp2_with fail
  refine (HA.out _).mono ?_
  rintro e w3 ⟨rfl, hb3⟩
  have HB3 := Lib.hid (bnext HB2.out hb3)
  clear hb3
  go_wp2_with fail
  go_ret
  exact ⟨rfl, HB3.out⟩

theorem b8s_of (xs : List Int) (h : ∀ n ∈ xs, (Lit.int .u8 n).wf = true) : xs.map (Value.int .u8) = encs8 (xs.map b8) := by
  unfold encs8
  rw [List.map_map]
  refine List.map_congr_left fun x hx => ?_
  have := bounds_u8 (h x hx)
  show Value.int .u8 x = .int .u8 (x % 256)
  rw [Int.emod_eq_of_lt this.1 (by omega)]
theorem contract {H : Type} {enc : TypeId × Value → H} (W : World) {base : Nat} {r : Reach} {b : Nat} {hd : Bool} {v0 v1 v2 : Value} {d0 d1 d2 : DataW H} {p0 p1 p2 : List MemPlace}
    (o0 : Value.okWide Try.prog W r b 22 v0) (h0 : DataW.Trod enc Try.prog W base (fun _ => true) hd 22 v0 d0 p0) (o1 : Value.okWide Try.prog W r b 23 v1) (h1 : DataW.Trod enc Try.prog W base (fun _ => true) hd 23 v1 d1 p1)
    (o2 : Value.okWide Try.prog W r b 3 v2) (h2 : DataW.Trod enc Try.prog W base (fun _ => true) hd 3 v2 d2 p2) {Q R : Prop} (_ : Q) (_ : R) :
    Calls Try.prog 3 #[v0, v1, v2] W fun e w' => e = .returned (.bool true) ∧ Below W.heap.size W w' := by
  obtain ⟨a0, rfl, _, _, w0⟩ := open_int Try.underlying22 o0 h0
  obtain ⟨A, c, xs, rfl, hr, hw, hc1, hc2, _⟩ := open_ints_arg Try.underlying23 Try.underlying5 (by kernel_rfl) o1 h1
  obtain ⟨a2, rfl, _, _, w2⟩ := open_int Try.underlying3 o2 h2
  have b0 := bounds_u32 w0
  rw [b8s_of xs hw, show xs.length = (xs.map b8).length by simp] at hr
  have := walk a0 a2 (xs.map b8) A c W b0.1 b0.2 hr (by simp; omega)
  rw [List.length_map] at this
  exact this

theorem own : ownKnob Try.prog.godebug = none := by kernel_rfl
theorem laidOut : laidOutB Try.prog = true := by kernel_rfl
theorem readable : ∀ t ∈ Try.f3.params.toList, Try.prog.readableRec t = true ∧ t < Try.prog.types.size := by
  rw [show Try.f3.params = #[22, 23, 3] from Try.params3]
  intro t h
  simp only [List.mem_cons, List.not_mem_nil, or_false] at h
  rcases h with rfl | rfl | rfl
  · exact ⟨by kernel_rfl, of_decide_eq_true (by kernel_rfl)⟩
  · exact ⟨by kernel_rfl, of_decide_eq_true (by kernel_rfl)⟩
  · exact ⟨by kernel_rfl, of_decide_eq_true (by kernel_rfl)⟩
set_option maxRecDepth 100000 in
theorem lifted (os : Os) (started : os.Started) (H : Type) (enc : TypeId × Value → H) :
    ReturnsInHanded {} Try.checked os 3 .any (Rows.hashMixesSpec.pre6 enc Try.prog Try.f3 Rows.hashMixesRow.domain false) (Rows.hashMixesSpec.post enc Try.prog Try.f3 false true false false) := by
  refine K.law_lift (C := Try.checked) (b := 4) own started (by kernel_rfl) Try.func3
    (ChangeSpec.witness6 (enc := enc) (C := Try.checked) false ⟨#[], #[.int .u32 0, .slice none 0 0, .int .i64 0], []⟩ 8 (by kernel_rfl) (by kernel_rfl) (by kernel_rfl) (by kernel_rfl)) laidOut readable rfl rfl Try.underlying4 ?_ ?_
  · intro ds hds
    rw [show Try.f3.params = #[22, 23, 3] from Try.params3] at hds
    match ds, hds with
    | [d0, d1, d2], _ => rfl
  · intro W base args ds p hval hA hlt hsz
    rw [show Try.checked.prog = Try.prog from rfl] at hval hA hsz
    rw [show Try.f3.params = #[22, 23, 3] from Try.params3] at hA hval hsz
    obtain ⟨v0, vs0, d0, ds0, p0, q0, hargs, rfl, rfl, h0, r0⟩ := trodAll_cons hA
    obtain ⟨v1, vs1, d1, ds1, p1, q1, rfl, rfl, rfl, h1, r1⟩ := trodAll_cons r0
    obtain ⟨v2, vs2, d2, ds2, p2, q2, rfl, rfl, rfl, h2, r2⟩ := trodAll_cons r1
    obtain ⟨rfl, rfl, rfl⟩ := trodAll_nil r2
    obtain rfl : args = #[v0, v1, v2] := by cases args; simp_all
    exact contract W (hval 0 22 v0 rfl rfl) h0 (hval 1 23 v1 rfl rfl) h1 (hval 2 3 v2 rfl rfl) h2 (fun x hx => hlt x hx) hsz

theorem over : Rows.hashMixesRow.holds Try.pinned (OpenSpec.ofChange Rows.hashMixesSpec) :=
  OpenClaim.holds_of_wide 3 Try.f3 rfl rfl rfl rfl rfl rfl rfl ⟨rfl, rfl, rfl, rfl, rfl⟩ rfl rfl rfl rfl rfl (by kernel_rfl) Try.func3 (by kernel_rfl)
    (of_decide_eq_true (by kernel_rfl)) (by unfold Func.isWrapper; rw [if_neg (of_decide_eq_false (by kernel_rfl))]; exact ⟨rfl, rfl⟩)
    (fun os started H enc _ => lifted os started H enc)

/-- THE STATEMENT -/
theorem proved : Rows.HashMixesSaid := over
#print axioms proved
end Go.Proofs.Ytbpdaoedmjpdpaa.HashMixes
