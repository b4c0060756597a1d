/- tenurelaw04.awake, walked; a term's bytes, that are known. -/
import Derived.Test.YtbpdaoedmjpdpaaHashBytes
import Derived.Test.YtbpdaoedmjpdpaaLeaf
namespace Go.Proofs.Ytbpdaoedmjpdpaa.Hs
open Go.RowKit K
set_option linter.unusedVariables false
set_option linter.unusedSimpArgs false

/-- hash.Bytes, as a slice that reads as the bytes. -/
theorem bytesR_any (t : Tm) (bs : List B8) (hbs : bytesT t = bs) (v : Value) (w : World) (h : TA w t v) (hN : bs.length ≤ 1099511627776) : Calls Try.prog 16 #[v] w fun e w' =>
    ∃ A c, e = .returned (.slice A bs.length c) ∧ Reads w' w'.heap.size 1 A bs.length (encs8 bs) ∧ (A = none → bs = []) ∧ Below w.heap.size w w' := by
  subst hbs
  refine (bytes_any t v w h hN).mono ?_
  rintro e w' ⟨v', rfl, hr, hb⟩
  obtain ⟨A, c, rfl, _⟩ := ownsRow_form hr
  refine ⟨A, c, rfl, Reads.of_own hr, fun hA => ?_, hb⟩
  subst hA
  rcases hr.2 with ⟨h, hn⟩ | ⟨g, cap, cur, h, _⟩
  · exact List.eq_nil_of_length_eq_zero hn
  · cases h
theorem reads_later {w w' : World} {size n : Nat} {A : Option Addr} {xs : List Value} (h : Reads w w.heap.size size A n xs) (hb : Below w.heap.size w w') : Reads w' w'.heap.size size A n xs := (h.below hb).more hb.size
theorem lit_reads (w : World) (bs : List B8) (arr : Array Value) (n : Nat) (hn : bs.length = n) (hl : n ≤ 1000) (ha : arr.toList = encs8 bs) : Reads (w.alloc (.cells arr 5)) (w.alloc (.cells arr 5)).heap.size 1 (some ⟨w.heap.size, 0, none⟩) n (encs8 bs) := by
  have hs : arr.size = n * 1 := by rw [← Array.length_toList, ha]; simp [encs8, hn]
  have := World.ownsRow_lit (base := 0) (e := 5) (size := 1) w arr n (Nat.zero_le _) (by unfold maxLen; omega) hs
  rw [ha] at this
  exact Reads.of_own this
def bs5 : List B8 := [b8 1, b8 5, b8 0, b8 0, b8 0, b8 0, b8 0, b8 0, b8 0]
theorem bytes5 : bytesT (tnum 5) = bs5 := by unfold tnum; rw [bytesT_mk]; decide +kernel
theorem b1_mix : mixL 0 [b8 1] = 16777619 := by decide +kernel
theorem bk75 : bktV 7 5 = 3 ∧ bktE 5 = 0 := by decide +kernel
set_option maxRecDepth 100000 in
set_option maxHeartbeats 4000000 in
theorem awake_any (w : World) : Calls Try.prog 14 #[] w fun e w' => e = .returned (.bool true) ∧ Below w.heap.size w w' := by
  have HBk := Lib.hid (fun w => bk75.1 ▸ bk75.2 ▸ bucket_any 7 5 w (by omega) (by omega))
  have HN := Lib.hid (fun n w => num_val n w)
  have HB := Lib.hid (fun v w h => bytesR_any (tnum 5) bs5 bytes5 v w h (by decide))
  have HM := Lib.hid (fun w => mix_any [] 2166136261 0 none 0 w (by omega) Reads.none_ (by decide))
  have HM1 := Lib.hid (fun B A c w h => b1_mix ▸ mix_any [b8 1] 0 B A c w (by omega) h (by decide))
  go_enter Try.func14, Try.ntmps14
  go_wp2_with fail
  refine (HBk.out _).mono ?_
  rintro e w1 ⟨rfl, rfl⟩
  go_wp2_with fail
  refine (HN.out _ _).mono ?_
  rintro e w1 ⟨rfl, hb1⟩
  have HB1 := Lib.hid hb1
  clear hb1
  go_wp2_with fail
  refine (HB.out _ _ (num_leaf _ 5 (by decide))).mono ?_
  rintro e w2 ⟨A, c, rfl, hr, hA, hb2⟩
  have HB2 := Lib.hid (bnext HB1.out hb2)
  have HR2 := Lib.hid hr
  have HA := Lib.hid hA
  clear hr hA hb2
  have HL := Lib.hid (lit_reads w2 bs5 #[.int .u8 1, .int .u8 5, .int .u8 0, .int .u8 0, .int .u8 0, .int .u8 0, .int .u8 0, .int .u8 0, .int .u8 0] 9 rfl (by omega) rfl)
  have HR3 := Lib.hid (reads_later HR2.out (ballocs (Below.refl w2.heap.size w2) (.cells #[.int .u8 1, .int .u8 5, .int .u8 0, .int .u8 0, .int .u8 0, .int .u8 0, .int .u8 0, .int .u8 0, .int .u8 0] 5)))
  have HB3 := Lib.hid (ballocs HB2.out (.cells #[.int .u8 1, .int .u8 5, .int .u8 0, .int .u8 0, .int .u8 0, .int .u8 0, .int .u8 0, .int .u8 0, .int .u8 0] 5))
  go_wp2_with fail
  refine (sameB_any bs5 bs5 _ A _ c 9 _ HR3.out HL.out HA.out (fun h => by cases h)).mono ?_
  rintro e w3 ⟨rfl, rfl⟩
  rw [show decide (bs5 = bs5) = true from decide_eq_true rfl]
  go_wp2_with fail
  refine (HM.out _).mono ?_
  rintro e w3 ⟨rfl, rfl⟩
  rw [show mixL 2166136261 [] = 2166136261 from rfl]
  have HL1 := Lib.hid (lit_reads (w2.alloc (.cells #[.int .u8 1, .int .u8 5, .int .u8 0, .int .u8 0, .int .u8 0, .int .u8 0, .int .u8 0, .int .u8 0, .int .u8 0] 5)) [b8 1] #[.int .u8 1] 1 rfl (by omega) rfl)
  have HB4 := Lib.hid (ballocs HB3.out (.cells #[.int .u8 1] 5))
  have hsz : (w2.alloc (.cells #[.int .u8 1, .int .u8 5, .int .u8 0, .int .u8 0, .int .u8 0, .int .u8 0, .int .u8 0, .int .u8 0, .int .u8 0] 5)).heap.size = w2.heap.size + 1 := World.size_alloc _ _
  go_wp2_with fail
  rw [hsz] at HL1
  refine (HM1.out _ _ 1 _ HL1.out).mono ?_
  rintro e w3 ⟨rfl, rfl⟩
  go_wp2_with fail
  go_ret
  exact ⟨rfl, HB4.out⟩
end Go.Proofs.Ytbpdaoedmjpdpaa.Hs
