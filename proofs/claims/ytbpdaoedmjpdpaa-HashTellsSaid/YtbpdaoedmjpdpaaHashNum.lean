/- hash.bytesOf's number: eight bytes are told. -/
import Derived.Test.YtbpdaoedmjpdpaaHashSpec
import Derived.Test.YtbpdaoedmjpdpaaInvIn
import Derived.Shelf.Abstract
import Derived.Shelf.RegionOpen
import Derived.WalkKit
import Derived.OwnWalkIn
import Derived.TacticsInMore
import Derived.LoopNIn
import Derived.LoopIn
import Derived.Test.YtbpdaoedmjpdpaaProg
import Derived.Lib.Hide
import Derived.RegionTactic
namespace Go.Proofs.Ytbpdaoedmjpdpaa.Hs
open Go.RowKit Go.Shelf K
set_option linter.unusedVariables false
set_option linter.unusedSimpArgs false
attribute [local go_sem] Oper.semAt_some

set_option maxRecDepth 100000 in
set_option maxHeartbeats 4000000 in
theorem num_in (b l N B0 : Nat) (J Jx : List B8 → World → Prop) (hJ : AbidesFrom B0 J) (hY : YOk Try.prog b l N J Jx) (n : Int) (By m : Nat) (pre : List B8) (W : World) (hB0 : B0 ≤ W.heap.size) (hv : Vb b W)
    (hby : W.cell? ⟨By, 0, none⟩ = some (.func (.yield l) #[] #[])) (hbn : ¬ Rb b W By) (h0 : J pre W) (hN : pre.length + 8 ≤ N) :
    CallsIn Fence.wide m Try.prog 47 #[.int .i64 n, .pointer (some ⟨By, 0, none⟩)] W fun e W' =>
      (e = .returned (.bool true) ∧ J (pre ++ le8 n) W' ∧ Kb b W W' ∧ Vb b W') ∨ (e = .returned (.bool false) ∧ ∃ q, q <+: le8 n ∧ Jx (pre ++ q) W') := by
  refine callsIn_of_wp Try.func47 rfl trivial ?_ rfl
  simp only [Try.ntmps47, List.size_toArray, List.length_cons, List.length_nil, Nat.reduceAdd, Nat.reduceSub, Array.replicate_succ, Array.replicate_zero, List.push_toArray, List.append_toArray, List.nil_append, List.cons_append]
  gi_wp2
  gi_loopw [5] (fun i wr => ∃ k : Nat, k ≤ 8 ∧ i = .int .i64 (k : Int) ∧ J (pre ++ (le8 n).take k) wr ∧ Kb b W wr ∧ Vb b wr) (fun i _ => 8 - (intOf i).toNat)
  case atStart => exact ⟨0, by omega, rfl, by simpa using h0, Kb.refl _ _, hv⟩
  case round =>
    obtain ⟨k, hk, rfl, hJs, hkb, hvb⟩ := hrel
    have hc := (hkb.cell hbn hby).1
    by_cases hlt : k < 8
    · have hst := le8_at n hlt
      have HST := Lib.hid hst
      have i1 : (0 : Int) ≤ (k : Int) := by omega
      have i2 : (k : Int) < 8 := by omega
      have hmix : Try.prog.follows .mixedOrders = true := by kernel_rfl
      clear hst
      gi_wp2
      refine wpIn_region_by hmix (by kernel_rfl) (fun L a' wx => ∃ (x8 x9 x10 x11 x12 x13 x14 x15 x16 : Value) (r : Bool), a' = { tmps := #[.int .i64 n, .pointer (some ⟨By, 0, none⟩), undef, u3, .int .i64 (k : Int), .int .i64 (k : Int), .bool true, .int .i64 (k : Int), x8, x9, x10, x11, x12, x13, x14, x15, x16, u17], defers := [] } ∧
        (L 0 = true → x8 = .func (.yield l) #[] #[]) ∧ (L 1 = true → x9 = .int .i64 n) ∧ (L 2 = true → x10 = .int .u64 (n % 18446744073709551616)) ∧ (L 3 = true → x11 = .int .i64 (k : Int)) ∧ (L 4 = true → x12 = .int .i64 (8 * (k : Int))) ∧ (L 5 = true → x13 = .int .u64 (n % 18446744073709551616 / (256 : Int) ^ k)) ∧ (L 6 = true → x14 = .int .u8 (b8 (n % 18446744073709551616 / (256 : Int) ^ k)).1) ∧
        (L 7 = true → x15 = .bool r ∧ ((r = true ∧ J (pre ++ (le8 n).take (k + 1)) wx ∧ Kb b W wx ∧ Vb b wx) ∨ (r = false ∧ Jx (pre ++ (le8 n).take (k + 1)) wx))) ∧ (L 8 = true → x16 = .bool (!r)) ∧ (L 7 = false → J (pre ++ (le8 n).take k) wx ∧ Kb b W wx ∧ Vb b wx) ∧ (L 7 = true → L 0 = true) ∧ (L 8 = true → L 7 = true)) ?_ ?_ ?_
      · exact ⟨_, _, _, _, _, _, _, _, _, true, rfl, nofun, nofun, nofun, nofun, nofun, nofun, nofun, nofun, nofun, fun _ => ⟨abides_drew hJ hJs, hkb.drew, hvb.drew⟩, nofun, nofun⟩
      · rintro L a' wx ⟨x8, x9, x10, x11, x12, x13, x14, x15, x16, r, rfl, h8, h9, h10, h11, h12, h13, h14, h15, h16, hw, h70, h87⟩ hL
        obtain ⟨rfl, hz⟩ := h15 (hL 7 (by decide))
        obtain rfl := h16 (hL 8 (by decide))
        clear h8 h9 h10 h11 h12 h13 h14 h15 h16 hw h70 h87 hL
        rcases hz with ⟨rfl, hJ3, hk3, hv3⟩ | ⟨rfl, hJx3⟩
        · gi_wp2
          go_roundw
          case rel => exact ⟨k + 1, by omega, by go_num, hJ3, hk3, hv3⟩
          case measure => simp [intOf]; omega
        · gi_wp2
          go_ret
          exact .inr ⟨rfl, _, List.take_prefix _ _, hJx3⟩
      · rintro i o ho L a' wx ⟨x8, x9, x10, x11, x12, x13, x14, x15, x16, r, rfl, h8, h9, h10, h11, h12, h13, h14, h15, h16, hw, h70, h87⟩ hi hdep K hK
        rcases i with _ | _ | _ | _ | _ | _ | _ | _ | _ | i
        · obtain rfl := Option.some.inj ho
          have h7 : L 7 = false := by
            cases h : L 7 with
            | false => rfl
            | true => rw [h70 h] at hi; cases hi
          have hc' := ((hw h7).2.1.cell hbn hby).1
          go_simp
          exact hK _ _ ⟨_, x9, x10, x11, x12, x13, x14, x15, x16, r, rfl, fun _ => rfl, by simpa [upto] using h9, by simpa [upto] using h10, by simpa [upto] using h11, by simpa [upto] using h12, by simpa [upto] using h13, by simpa [upto] using h14, by simpa [upto] using h15, by simpa [upto] using h16, by simpa [upto] using hw, fun _ => by simp [upto], by simpa [upto] using h87⟩
        · obtain rfl := Option.some.inj ho
          go_simp
          exact hK _ _ ⟨x8, _, x10, x11, x12, x13, x14, x15, x16, r, rfl, by simpa [upto] using h8, fun _ => rfl, by simpa [upto] using h10, by simpa [upto] using h11, by simpa [upto] using h12, by simpa [upto] using h13, by simpa [upto] using h14, by simpa [upto] using h15, by simpa [upto] using h16, by simpa [upto] using hw, by simpa [upto] using h70, by simpa [upto] using h87⟩
        · obtain rfl := Option.some.inj ho
          obtain rfl := h9 (hdep ⟨1, .data⟩ (by simp) rfl)
          go_simp
          exact hK _ _ ⟨x8, _, _, x11, x12, x13, x14, x15, x16, r, rfl, by simpa [upto] using h8, fun _ => rfl, fun _ => rfl, by simpa [upto] using h11, by simpa [upto] using h12, by simpa [upto] using h13, by simpa [upto] using h14, by simpa [upto] using h15, by simpa [upto] using h16, by simpa [upto] using hw, by simpa [upto] using h70, by simpa [upto] using h87⟩
        · obtain rfl := Option.some.inj ho
          go_simp
          exact hK _ _ ⟨x8, x9, x10, _, x12, x13, x14, x15, x16, r, rfl, by simpa [upto] using h8, by simpa [upto] using h9, by simpa [upto] using h10, fun _ => rfl, by simpa [upto] using h12, by simpa [upto] using h13, by simpa [upto] using h14, by simpa [upto] using h15, by simpa [upto] using h16, by simpa [upto] using hw, by simpa [upto] using h70, by simpa [upto] using h87⟩
        · obtain rfl := Option.some.inj ho
          obtain rfl := h11 (hdep ⟨3, .data⟩ (by simp) rfl)
          go_simp
          exact hK _ _ ⟨x8, x9, x10, _, _, x13, x14, x15, x16, r, rfl, by simpa [upto] using h8, by simpa [upto] using h9, by simpa [upto] using h10, fun _ => rfl, fun _ => by rw [IntWalk.i64_in (8 * (k : Int)) (by omega)], by simpa [upto] using h13, by simpa [upto] using h14, by simpa [upto] using h15, by simpa [upto] using h16, by simpa [upto] using hw, by simpa [upto] using h70, by simpa [upto] using h87⟩
        · obtain rfl := Option.some.inj ho
          obtain rfl := h10 (hdep ⟨2, .data⟩ (by simp) rfl)
          obtain rfl := h12 (hdep ⟨4, .data⟩ (by simp) rfl)
          go_simp
          exact hK _ _ ⟨x8, x9, _, x11, _, _, x14, x15, x16, r, rfl, by simpa [upto] using h8, by simpa [upto] using h9, fun _ => rfl, by simpa [upto] using h11, fun _ => rfl, fun _ => by rw [show (8 * (k : Int)).toNat = 8 * k from by omega, Int.pow_mul]; rfl, by simpa [upto] using h14, by simpa [upto] using h15, by simpa [upto] using h16, by simpa [upto] using hw, by simpa [upto] using h70, by simpa [upto] using h87⟩
        · obtain rfl := Option.some.inj ho
          obtain rfl := h13 (hdep ⟨5, .data⟩ (by simp) rfl)
          go_simp
          exact hK _ _ ⟨x8, x9, x10, x11, x12, _, _, x15, x16, r, rfl, by simpa [upto] using h8, by simpa [upto] using h9, by simpa [upto] using h10, by simpa [upto] using h11, by simpa [upto] using h12, fun _ => rfl, fun _ => by simp [b8, IntKind.wrap, IntKind.bits, IntKind.signed], by simpa [upto] using h15, by simpa [upto] using h16, by simpa [upto] using hw, by simpa [upto] using h70, by simpa [upto] using h87⟩
        · obtain rfl := Option.some.inj ho
          obtain rfl := h8 (hdep ⟨0, .data⟩ (by simp) rfl)
          obtain rfl := h14 (hdep ⟨6, .data⟩ (by simp) rfl)
          obtain ⟨hJ7, hk7, hv7⟩ := hw hi
          obtain ⟨fn, tmps, assign, body, hy, hR⟩ := hY (m - 1) _ (b8 (n % 18446744073709551616 / (256 : Int) ^ k)) wx hJ7 (by have := le8_len n; simp; omega)
          have d0 := (hdep ⟨0, .data⟩ (by simp) rfl)
          have HR := Lib.hid hR
          clear hR
          go_simp
          refine ⟨fun h => (by cases h), HR.out.mono ?_⟩
          rintro e W3 (⟨rfl, hJ3, hk3⟩ | ⟨rfl, hJx3⟩)
          · rw [List.append_assoc, ← HST.out] at hJ3
            exact hK _ _ ⟨_, x9, x10, x11, x12, x13, _, _, x16, true, rfl, fun _ => rfl, by simpa [upto] using h9, by simpa [upto] using h10, by simpa [upto] using h11, by simpa [upto] using h12, by simpa [upto] using h13, fun _ => rfl, fun _ => ⟨rfl, .inl ⟨rfl, hJ3, hk7.trans hk3, hk3.2.1 hv7⟩⟩, (fun h => by have := h87 (by simpa [upto] using h); rw [hi] at this; cases this), by simp [upto], by simp [upto, d0], fun _ => by simp [upto]⟩
          · rw [List.append_assoc, ← HST.out] at hJx3
            exact hK _ _ ⟨_, x9, x10, x11, x12, x13, _, _, x16, false, rfl, fun _ => rfl, by simpa [upto] using h9, by simpa [upto] using h10, by simpa [upto] using h11, by simpa [upto] using h12, by simpa [upto] using h13, fun _ => rfl, fun _ => ⟨rfl, .inr ⟨rfl, hJx3⟩⟩, (fun h => by have := h87 (by simpa [upto] using h); rw [hi] at this; cases this), by simp [upto], by simp [upto, d0], fun _ => by simp [upto]⟩
        · obtain rfl := Option.some.inj ho
          have d7 := (hdep ⟨7, .data⟩ (by simp) rfl)
          obtain ⟨rfl, hz⟩ := h15 (hdep ⟨7, .data⟩ (by simp) rfl)
          go_simp
          exact hK _ _ ⟨_, x9, x10, x11, x12, x13, x14, _, _, r, rfl, fun _ => rfl, by simpa [upto] using h9, by simpa [upto] using h10, by simpa [upto] using h11, by simpa [upto] using h12, by simpa [upto] using h13, by simpa [upto] using h14, fun _ => ⟨rfl, hz⟩, fun _ => rfl, by simpa [upto] using hw, by simpa [upto] using h70, fun _ => by simpa [upto] using d7⟩
        · simp at ho
    · obtain rfl : k = 8 := by omega
      rw [show (le8 n).take 8 = le8 n from List.take_of_length_le (by rw [le8_len]; omega)] at hJs
      gi_wp2
      go_ret
      exact .inl ⟨rfl, hJs, hkb, hvb⟩
end Go.Proofs.Ytbpdaoedmjpdpaa.Hs
