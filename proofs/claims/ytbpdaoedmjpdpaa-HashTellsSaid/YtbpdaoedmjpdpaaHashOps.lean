/- hash.Mix, Bucket; SameBytes: each by its contract. -/
import Derived.Test.YtbpdaoedmjpdpaaHashSpec
import Derived.Test.YtbpdaoedmjpdpaaLawKit
import Derived.Test.YtbpdaoedmjpdpaaRows2
import Derived.Test.YtbpdaoedmjpdpaaBitsLen
import Derived.Test.YtbpdaoedmjpdpaaBucketSpec
import Derived.Laws.IdiomStrings
import Derived.Lib.BufferRead
import Derived.Outline
import Derived.WalkLawsBesides
import Derived.WalkSpells
namespace Go.Proofs.Ytbpdaoedmjpdpaa.Hs
open Go.RowKit K
set_option linter.unusedVariables false
set_option linter.unusedSimpArgs false

def mixI (h c : Int) : Int := bits .xor .u32 h c * 16777619 % 4294967296
theorem mixI_range (h c : Int) : 0 ≤ mixI h c ∧ mixI h c ≤ 4294967295 := by
  unfold mixI
  have h1 := Int.emod_nonneg (bits .xor .u32 h c * 16777619) (b := 4294967296) (by decide)
  have h2 := Int.emod_lt_of_pos (bits .xor .u32 h c * 16777619) (b := 4294967296) (by decide)
  omega
def mixL (h : Int) (bs : List B8) : Int := bs.foldl (fun h c => mixI h c.1) h
theorem mixL_range (bs : List B8) {h : Int} (h0 : 0 ≤ h ∧ h ≤ 4294967295) : 0 ≤ mixL h bs ∧ mixL h bs ≤ 4294967295 := by
  induction bs generalizing h with
  | nil => exact h0
  | cons c bs ih => exact ih (mixI_range h c.1)
theorem mixL_take_succ {bs : List B8} {k : Nat} {c : B8} (h : bs[k]? = some c) (h0 : Int) : mixL h0 (bs.take (k + 1)) = mixI (mixL h0 (bs.take k)) c.1 := by
  rw [List.take_add_one, h]
  simp [mixL]
set_option maxRecDepth 100000 in
set_option maxHeartbeats 4000000 in
theorem mixed_any (h c : Int) (w : World) (h0 : 0 ≤ h) (h1 : h ≤ 4294967295) (c0 : 0 ≤ c) (c1 : c ≤ 255) : Calls Try.prog 32 #[.int .u32 h, .int .u8 c] w fun e w' => e = .returned (.int .u32 (mixI h c)) ∧ w = w' := by
  go_enter Try.func32, Try.ntmps32
  go_wp2_with fail
  go_ret
  exact ⟨rfl, rfl⟩
def encs8 (bs : List B8) : List Value := bs.map fun x => .int .u8 x.1
theorem encs8_at {bs : List B8} {k : Nat} {c : B8} (h : bs[k]? = some c) : (encs8 bs)[k]? = some (.int .u8 c.1) := by
  unfold encs8; rw [List.getElem?_map, h]; rfl
theorem encs8_one (bs : List B8) : ∀ u ∈ encs8 bs, u.oneCell' = true := by
  intro u hu
  unfold encs8 at hu
  obtain ⟨x, _, rfl⟩ := List.mem_map.1 hu
  rfl
set_option maxRecDepth 100000 in
set_option maxHeartbeats 4000000 in
theorem mix_any (bs : List B8) (h : Int) (B : Nat) (A : Option Addr) (c : Nat) (w : World) (h0 : 0 ≤ h ∧ h ≤ 4294967295) (hr : Reads w B 1 A bs.length (encs8 bs)) (hl : bs.length < 9223372036854775807) :
    Calls Try.prog 11 #[.int .u32 h, .slice A bs.length c] w fun e w' => e = .returned (.int .u32 (mixL h bs)) ∧ w = w' := by
  go_enter Try.func11, Try.ntmps11
  go_wp2_with fail
  go_loop [0, 9] (fun x i => ∃ k : Nat, k ≤ bs.length ∧ i = .int .i64 (k : Int) ∧ x = .int .u32 (mixL h (bs.take k))) (fun _ i => bs.length - (intOf i).toNat)
  case atStart => exact ⟨0, Nat.zero_le _, rfl, rfl⟩
  case round =>
    obtain ⟨k, hk, rfl, rfl⟩ := hrel
    by_cases hlt : k < bs.length
    · obtain ⟨x, hx⟩ : ∃ x, bs[k]? = some x := ⟨_, List.getElem?_eq_getElem hlt⟩
      obtain ⟨ad, u, rfl, _, hu, hc⟩ := hr.at_ hlt
      rw [encs8_at hx] at hu
      injection hu with hu
      subst hu
      have HM := Lib.hid (mixL_take_succ hx h)
      obtain ⟨y, hy⟩ : ∃ y, mixL h (bs.take k) = y := ⟨_, rfl⟩
      have hyr := mixL_range (bs.take k) h0
      rw [hy] at HM hyr ⊢
      have x0 := x.2.1
      have x1 := x.2.2
      have HX := Lib.hid (fun w => mixed_any y x.1 w hyr.1 hyr.2 x0 x1)
      clear hy hyr hx hr
      go_wp2_with fail
      refine (HX.out _).mono ?_
      rintro e w1 ⟨rfl, rfl⟩
      go_wp2_with fail
      go_round
      case rel => exact ⟨k + 1, by omega, by go_num, by rw [HM.out]⟩
      case measure => simp [intOf]; omega
    · obtain rfl : k = bs.length := by omega
      rw [List.take_length]
      go_wp2_with fail
      go_ret
      exact ⟨rfl, rfl⟩

/-! ### Bucket -/
set_option maxRecDepth 100000 in
set_option maxHeartbeats 4000000 in
theorem bucket_any (h b : Int) (w : World) (h0 : 0 ≤ h) (h1 : h ≤ 4294967295) : Calls Try.prog 9 #[.int .u32 h, .int .i64 b] w fun e w' => e = .returned (.tuple #[.int .i64 (bktV h b), .int .i64 (bktE b)]) ∧ w = w' := by
  by_cases b1 : b < 1
  · go_enter Try.func9, Try.ntmps9
    go_wp2_with fail
    go_ret2
    exact ⟨ret2_ii (by unfold bktV; rw [if_pos (.inl b1)]) (by unfold bktE; rw [if_pos (.inl b1)]), rfl⟩
  by_cases b2 : 1048576 < b
  · go_enter Try.func9, Try.ntmps9
    go_wp2_with fail
    go_ret2
    exact ⟨ret2_ii (by unfold bktV; rw [if_pos (.inr b2)]) (by unfold bktE; rw [if_pos (.inr b2)]), rfl⟩
  obtain ⟨k, rfl⟩ : ∃ k : Nat, b = (k : Int) := ⟨b.toNat, by omega⟩
  have E2 := Lib.hid (show (0 : Int) = bktE (k : Int) from by unfold bktE; rw [if_neg (by omega)])
  have EV : bktV h (k : Int) = bktI h (k : Int) := by unfold bktV; rw [if_neg (by omega)]
  obtain ⟨a1, a2, a3⟩ := pw_is (b := k) (by omega) (by omega)
  obtain ⟨L, hL⟩ : ∃ L, Lib.bitLen (k - 1) = L := ⟨_, rfl⟩
  have hL2 : ((k : Int) - 1).toNat = k - 1 := by omega
  have HL := Lib.hid (fun w => (Sh.bits_Len ((k : Int) - 1) w (by omega) (by omega)).mono (R' := fun e w' => e = .returned (.int .i64 (L : Int)) ∧ w = w') fun e w' h => by rw [hL2, hL] at h; exact h)
  obtain ⟨q, hq⟩ : ∃ q, pw k = q := ⟨_, rfl⟩
  have eq0 : 2 ^ L = q := by rw [← hq, ← hL]; rfl
  have hw : (2 : Int) ^ L % 4294967296 = (q : Int) := by
    have e : ((2 : Int) ^ L) = (q : Int) := by rw [← eq0]; simp
    rw [e, Int.emod_eq_of_lt (by omega) (by omega)]
  have hL20 : L ≤ 20 := by
    rcases Nat.lt_or_ge 20 L with h | h
    · have := Nat.pow_lt_pow_right (a := 2) (by decide) h
      omega
    · exact h
  have hhalf := fun hlt => pw_half (b := k) (by omega) (by omega) hlt
  rw [hq] at a1 a2 hhalf
  have hmod : h % (q : Int) = ((h.toNat % q : Nat) : Int) := by
    rw [Int.natCast_emod]; congr 1; omega
  have hml : h.toNat % q < q := Nat.mod_lt _ (by omega)
  obtain ⟨x, hx⟩ : ∃ x, h.toNat % q = x := ⟨_, rfl⟩
  rw [hx] at hmod hml
  have hq0 : (0 : Int) < (q : Int) := by omega
  have hqz : ((q : Int) == 0) = false := by simp; omega
  by_cases hc : (x : Int) < (k : Int)
  · have E1 := Lib.hid (show (x : Int) = bktV h (k : Int) from by rw [EV]; unfold bktI; rw [Int.toNat_natCast, hq, hmod, if_pos hc])
    clear EV hhalf hx eq0 hL hL2
    go_enter Try.func9, Try.ntmps9
    go_wp2_with fail
    refine (HL.out _).mono ?_
    rintro e w1 ⟨rfl, rfl⟩
    go_wp2_with fail
    go_ret2
    exact ⟨ret2_ii E1.out E2.out, rfl⟩
  · obtain ⟨r, e1, e2, e3, j, e4⟩ := hhalf (by omega)
    have hr : (q : Int) / 2 = (r : Int) := by omega
    have hand := and_mask x j (by omega) (by rw [← e4]; omega)
    rw [← e4] at hand
    have E1 := Lib.hid (show ((x % r : Nat) : Int) = bktV h (k : Int) from by
      rw [EV]; unfold bktI
      rw [Int.toNat_natCast, hq, hmod, if_neg hc, hr]
      have h5 := mod_mod_half h (r : Int) (by omega)
      rw [← h5, show 2 * (r : Int) = (q : Int) from by omega, hmod, Int.natCast_emod])
    have hxr : ((x % r : Nat) : Int) ≤ 1048576 := by have := Nat.mod_lt x (show r > 0 by omega); omega
    obtain ⟨y, hy⟩ : ∃ y, x % r = y := ⟨_, rfl⟩
    rw [hy] at hand E1 hxr
    have hand2 : bits .and .u32 (x : Int) ((r : Int) - 1) = (y : Int) := by rw [← hand, Int.emod_eq_of_lt (by omega) (by omega)]
    have r1 : (1 : Int) ≤ (r : Int) := by omega
    clear EV hhalf hx eq0 hL hL2 e4 hy e1
    go_enter Try.func9, Try.ntmps9
    go_wp2_with fail
    refine (HL.out _).mono ?_
    rintro e w1 ⟨rfl, rfl⟩
    go_wp2_with fail
    go_ret2
    exact ⟨ret2_ii E1.out E2.out, rfl⟩

/-! ### SameBytes -/
def txt (bs : List B8) : ByteArray := ⟨(bs.map fun x => UInt8.ofNat x.1.toNat).toArray⟩
theorem b8_back (x : B8) : ((UInt8.ofNat x.1.toNat).toNat : Int) = x.1 := by
  have := x.2
  simp [UInt8.toNat_ofNat]
  omega
theorem txt_inj {a b : List B8} (h : txt a = txt b) : a = b := by
  unfold txt at h
  injection h with h
  have h := congrArg Array.toList h
  simp only [List.toList_toArray] at h
  have h2 := congrArg (List.map fun c : UInt8 => b8 (c.toNat : Int)) h
  rw [List.map_map, List.map_map] at h2
  have e : ((fun c : UInt8 => b8 (c.toNat : Int)) ∘ fun x : B8 => UInt8.ofNat x.1.toNat) = id := by
    funext x
    apply Subtype.ext
    show ((UInt8.ofNat x.1.toNat).toNat : Int) % 256 = x.1
    rw [b8_back]
    have := x.2
    omega
  rw [e, List.map_id, List.map_id] at h2
  exact h2
/-- Bytes read as a text. -/
theorem conv_txt (bs : List B8) (B : Nat) (A : Option Addr) (c : Nat) (w : World) (hr : Reads w B 1 A bs.length (encs8 bs)) (hA : A = none → bs = []) :
    (convert 23 9 (.slice A bs.length c)).run Try.prog w = .ok (.string (txt bs)) w := by
  cases A with
  | none =>
    have := hA rfl
    subst this
    exact Lib.run_convert_nil_bytes w 23 9 5 c Try.underlying23 Try.underlying5 Try.underlying9
  | some ad =>
    have h := run_convert_bytes_back (P := Try.prog) w 23 9 5 ad c (bs.map fun x => UInt8.ofNat x.1.toNat) Try.underlying23 Try.underlying5 Try.underlying9 (fun j hj => by
      have hj' : j < bs.length := by simpa using hj
      obtain ⟨ad', u, e, _, hu, hc⟩ := hr.at_ hj'
      injection e with e
      subst e
      rw [encs8_at (List.getElem?_eq_getElem hj')] at hu
      injection hu with hu
      rw [hc, ← hu]
      simp only [List.getElem_map]
      rw [b8_back])
    rw [List.length_map] at h
    exact h
set_option maxRecDepth 100000 in
set_option maxHeartbeats 4000000 in
theorem sameB_any (a b : List B8) (B : Nat) (A A' : Option Addr) (c c' : Nat) (w : World) (h : Reads w B 1 A a.length (encs8 a)) (h' : Reads w B 1 A' b.length (encs8 b)) (hA : A = none → a = []) (hA' : A' = none → b = []) :
    Calls Try.prog 15 #[.slice A a.length c, .slice A' b.length c'] w fun e w' => e = .returned (.bool (decide (a = b))) ∧ w = w' := by
  have h1 := conv_txt a B A c w h hA
  have h2 := conv_txt b B A' c' w h' hA'
  by_cases he : a = b
  · have HE := Lib.hid (decide_eq_true he)
    have ht : txt a = txt b := by rw [he]
    rw [ht] at h1
    clear h h' hA hA' he ht
    go_enter Try.func15, Try.ntmps15
    go_wp2_with fail
    go_ret
    exact ⟨ret1_b (by rw [HE.out]), rfl⟩
  · have HE := Lib.hid (decide_eq_false he)
    have ht := tstr_ne (fun e => he (txt_inj e))
    clear h h' hA hA' he
    go_enter Try.func15, Try.ntmps15
    go_wp2_with fail
    go_ret
    exact ⟨ret1_b (by rw [HE.out]), rfl⟩
end Go.Proofs.Ytbpdaoedmjpdpaa.Hs
