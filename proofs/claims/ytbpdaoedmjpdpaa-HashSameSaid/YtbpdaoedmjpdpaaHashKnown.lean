/- The law HashKnown returns true: the chapter's examples are answered as it says. -/
import Derived.Test.YtbpdaoedmjpdpaaLaw04
namespace Go.Proofs.Ytbpdaoedmjpdpaa.HashKnown
open Go.RowKit K Hs
open Go.ChangeShapes Go.WideShapes Go.ChangeAt
set_option linter.unusedVariables false
set_option linter.unusedSimpArgs false

def bsA : List B8 := [b8 2, b8 2, b8 97, b8 98]
def bsB : List B8 := [b8 7, b8 0]
def bsC : List B8 := [b8 9, b8 1, b8 1, b8 0, b8 0, b8 0, b8 0, b8 0, b8 0, b8 0, b8 8]
theorem bytesA : bytesT (tsym ⟨#[97, 98]⟩) = bsA := by unfold tsym; rw [bytesT_mk]; decide +kernel
theorem bytesB : bytesT (ttup []) = bsB := by unfold ttup; rw [bytesT_mk, bytesL_nil]; decide +kernel
theorem bytesC : bytesT (tlist [tnum 1] tnil) = bsC := by
  show bytesT (.mk 9 0 .empty [.mk 1 1 .empty [], .mk 8 0 .empty []]) = bsC
  rw [bytesT_mk, bytesL_cons, bytesL_cons, bytesL_nil, bytesT_mk, bytesT_mk, bytesL_nil]
  decide +kernel
theorem bkA : bktV 6 8 = 6 ∧ bktE 8 = 0 := by decide +kernel
theorem bkB : bktV 3 1 = 0 ∧ bktE 1 = 0 := by decide +kernel
theorem bkC : bktV 1 0 = 0 ∧ bktE 0 = 2 := by decide +kernel
set_option maxRecDepth 100000 in
set_option maxHeartbeats 4000000 in
theorem known (w : World) : Calls Try.prog 4 #[] w fun e w' => e = .returned (.bool true) ∧ Below w.heap.size w w' := by
  have HA1 := Lib.hid (fun w => bkA.1 ▸ bkA.2 ▸ bucket_any 6 8 w (by omega) (by omega))
  have HB1 := Lib.hid (fun w => bkB.1 ▸ bkB.2 ▸ bucket_any 3 1 w (by omega) (by omega))
  have HC1 := Lib.hid (fun w => bkC.1 ▸ bkC.2 ▸ bucket_any 1 0 w (by omega) (by omega))
  have HBA := Lib.hid (fun v w h => bytesR_any (tsym ⟨#[97, 98]⟩) bsA bytesA v w h (by decide))
  have HBB := Lib.hid (fun v w h => bytesR_any (ttup []) bsB bytesB v w h (by decide))
  have HBC := Lib.hid (fun v w h => bytesR_any (tlist [tnum 1] tnil) bsC bytesC v w h (by decide))
  go_enter Try.func4, Try.ntmps4
  go_wp2_with fail
  refine (HA1.out _).mono ?_
  rintro e w1 ⟨rfl, rfl⟩
  go_wp2_with fail
  refine (HB1.out _).mono ?_
  rintro e w1 ⟨rfl, rfl⟩
  go_wp2_with fail
  refine (HC1.out _).mono ?_
  rintro e w1 ⟨rfl, rfl⟩
  go_wp2_with fail
  refine (sym_val _ _).mono ?_
  rintro e w1 ⟨rfl, hb1⟩
  have HB1' := Lib.hid hb1
  clear hb1
  go_wp2_with fail
  refine (HBA.out _ _ (sym_leaf _ _ (by decide))).mono ?_
  rintro e w2 ⟨A2, c2, rfl, hr, hA, hb2⟩
  have HB2' := Lib.hid (bnext HB1'.out hb2)
  have HR2 := Lib.hid hr
  have HA2 := Lib.hid hA
  clear hr hA hb2
  have HL2 := Lib.hid (lit_reads w2 bsA #[.int .u8 2, .int .u8 2, .int .u8 97, .int .u8 98] 4 rfl (by omega) rfl)
  have HS2 := Lib.hid (reads_later HR2.out (ballocs (Below.refl w2.heap.size w2) (.cells #[.int .u8 2, .int .u8 2, .int .u8 97, .int .u8 98] 5)))
  have HB3' := Lib.hid (ballocs HB2'.out (.cells #[.int .u8 2, .int .u8 2, .int .u8 97, .int .u8 98] 5))
  go_wp2_with fail
  refine (sameB_any bsA bsA _ A2 _ c2 4 _ HS2.out HL2.out HA2.out (fun h => by cases h)).mono ?_
  rintro e w3 ⟨rfl, rfl⟩
  rw [show decide (bsA = bsA) = true from decide_eq_true rfl]
  go_wp2_with fail
  refine (tup_val _ _ _ _).mono ?_
  rintro e w4 ⟨rfl, hb4⟩
  have HB4' := Lib.hid (bnext HB3'.out hb4)
  clear hb4
  go_wp2_with fail
  refine (HBB.out _ _ (ta_tup (TsAt.nil _ _ _) (Nat.le_refl _) (by simp [maxLen]) (fun _ => rfl))).mono ?_
  rintro e w5 ⟨A5, c5, rfl, hr, hA, hb5⟩
  have HB5' := Lib.hid (bnext HB4'.out hb5)
  have HR5 := Lib.hid hr
  have HA5 := Lib.hid hA
  clear hr hA hb5
  have HL5 := Lib.hid (lit_reads w5 bsB #[.int .u8 7, .int .u8 0] 2 rfl (by omega) rfl)
  have HS5 := Lib.hid (reads_later HR5.out (ballocs (Below.refl w5.heap.size w5) (.cells #[.int .u8 7, .int .u8 0] 5)))
  have HB6' := Lib.hid (ballocs HB5'.out (.cells #[.int .u8 7, .int .u8 0] 5))
  go_wp2_with fail
  refine (sameB_any bsB bsB _ A5 _ c5 2 _ HS5.out HL5.out HA5.out (fun h => by cases h)).mono ?_
  rintro e w6 ⟨rfl, rfl⟩
  rw [show decide (bsB = bsB) = true from decide_eq_true rfl]
  go_wp2_with fail
  refine (num_val _ _).mono ?_
  rintro e w7 ⟨rfl, hb7⟩
  have HB7 := Lib.hid (bnext HB6'.out hb7)
  clear hb7
  have HR7' := Lib.hid (show TsA (w7.alloc (.cells #[.int .i64 1, .int .i64 1, .string ⟨#[]⟩, .slice none 0 0] 35)) (some ⟨w7.heap.size, 0, none⟩) [tnum 1] from
    (lit_rowF (vs := [_]) (.cons (num_leaf w7 1 (F := fun _ => False) (by decide)) .nil) (fun b h => h.elim) (by simp [maxLen]) #[.int .i64 1, .int .i64 1, .string ⟨#[]⟩, .slice none 0 0] rfl).mono fun b hb => by rw [World.size_alloc]; rcases hb with hb | hb; exact hb.elim; omega)
  go_wp2_with fail
  refine (none_val _).mono ?_
  rintro e w8 ⟨rfl, hb8⟩
  have HB8 := Lib.hid (bnext (ballocs HB7.out _) hb8)
  have HR8' := Lib.hid (HR7'.out.later hb8)
  clear hb8
  go_wp2_with fail
  refine (pairs_any [tnum 1] tnil _ 1 _ _ HR8'.out (nil_leaf _) (by simp [maxLen])).mono ?_
  rintro e w9 ⟨v9, rfl, ht9, hb9⟩
  have HB9' := Lib.hid (bnext HB8.out hb9)
  have HT9 := Lib.hid ht9
  clear hb9 ht9
  go_wp2_with fail
  refine (HBC.out _ _ HT9.out).mono ?_
  rintro e w10 ⟨A10, c10, rfl, hr, hA, hb10⟩
  have HB10' := Lib.hid (bnext HB9'.out hb10)
  have HR10 := Lib.hid hr
  have HA10 := Lib.hid hA
  clear hr hA hb10
  have HL10 := Lib.hid (lit_reads w10 bsC #[.int .u8 9, .int .u8 1, .int .u8 1, .int .u8 0, .int .u8 0, .int .u8 0, .int .u8 0, .int .u8 0, .int .u8 0, .int .u8 0, .int .u8 8] 11 rfl (by omega) rfl)
  have HS10 := Lib.hid (reads_later HR10.out (ballocs (Below.refl w10.heap.size w10) (.cells #[.int .u8 9, .int .u8 1, .int .u8 1, .int .u8 0, .int .u8 0, .int .u8 0, .int .u8 0, .int .u8 0, .int .u8 0, .int .u8 0, .int .u8 8] 5)))
  have HB11' := Lib.hid (ballocs HB10'.out (.cells #[.int .u8 9, .int .u8 1, .int .u8 1, .int .u8 0, .int .u8 0, .int .u8 0, .int .u8 0, .int .u8 0, .int .u8 0, .int .u8 0, .int .u8 8] 5))
  go_wp2_with fail
  refine (sameB_any bsC bsC _ A10 _ c10 11 _ HS10.out HL10.out HA10.out (fun h => by cases h)).mono ?_
  rintro e w11 ⟨rfl, rfl⟩
  rw [show decide (bsC = bsC) = true from decide_eq_true rfl]
  go_wp2_with fail
  refine (awake_any _).mono ?_
  rintro e w12 ⟨rfl, hb12⟩
  have HB12 := Lib.hid (bnext HB11'.out hb12)
  clear hb12
  go_wp2_with fail
  go_ret
  exact ⟨rfl, HB12.out⟩

theorem contract (W : World) : Calls Try.prog 4 #[] W fun e w' => e = .returned (.bool true) ∧ Below W.heap.size W w' := known W

theorem own : ownKnob Try.prog.godebug = none := by kernel_rfl
theorem laidOut : laidOutB Try.prog = true := by kernel_rfl
theorem readable : ∀ t ∈ Try.f4.params.toList, Try.prog.readableRec t = true ∧ t < Try.prog.types.size := by
  rw [show Try.f4.params = #[] from Try.params4]
  intro t h; simp at h
set_option maxRecDepth 100000 in
theorem lifted (os : Os) (started : os.Started) (H : Type) (enc : TypeId × Value → H) :
    ReturnsInHanded {} Try.checked os 4 .any (Rows.hashKnownSpec.pre6 enc Try.prog Try.f4 Rows.hashKnownRow.domain false) (Rows.hashKnownSpec.post enc Try.prog Try.f4 false true false false) := by
  refine K.law_lift (C := Try.checked) (b := 4) own started (by kernel_rfl) Try.func4
    (ChangeSpec.witness6 (enc := enc) (C := Try.checked) false ⟨#[], #[], []⟩ 8 (by kernel_rfl) (by kernel_rfl) (by kernel_rfl) (by kernel_rfl)) laidOut readable rfl rfl Try.underlying4 ?_ ?_
  · intro ds hds
    rw [show Try.f4.params = #[] from Try.params4] at hds
    match ds, hds with
    | [], _ => rfl
  · intro W base args ds p hval hA hlt hsz
    rw [show Try.checked.prog = Try.prog from rfl] at hval hA hsz
    rw [show Try.f4.params = #[] from Try.params4] at hA hval hsz
    obtain ⟨hargs, rfl, rfl⟩ := trodAll_nil hA
    obtain rfl : args = #[] := by cases args; simp_all
    exact contract W

theorem over : Rows.hashKnownRow.holds Try.pinned (OpenSpec.ofChange Rows.hashKnownSpec) :=
  OpenClaim.holds_of_wide 4 Try.f4 rfl rfl rfl rfl rfl rfl rfl ⟨rfl, rfl, rfl, rfl, rfl⟩ rfl rfl rfl rfl rfl (by kernel_rfl) Try.func4 (by kernel_rfl)
    (of_decide_eq_true (by kernel_rfl)) (by unfold Func.isWrapper; rw [if_neg (of_decide_eq_false (by kernel_rfl))]; exact ⟨rfl, rfl⟩)
    (fun os started H enc _ => lifted os started H enc)

/-- THE STATEMENT -/
theorem proved : Rows.HashKnownSaid := over
#print axioms proved
end Go.Proofs.Ytbpdaoedmjpdpaa.HashKnown
