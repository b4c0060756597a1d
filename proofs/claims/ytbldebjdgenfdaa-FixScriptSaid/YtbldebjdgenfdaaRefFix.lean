/- The document's count of who fixes: its Of, by its contract. -/
import Derived.Test.YtbldebjdgenfdaaLaw12
namespace Go.Proofs.Ytbldebjdgenfdaa.Fx
open Go.RowKit K
set_option linter.unusedVariables false
set_option linter.unusedSimpArgs false

/-- The document's count at block h, its blocks among G: just these fix. -/
def RC (w : World) (G : Nat → Prop) (h : Nat) (L : List Int) : Prop :=
  ∃ v, (∀ k, G k → k < w.heap.size) ∧ G h ∧ (∀ r, v.ownBlock = some r → G r) ∧ Blk w h 28 #[v] ∧ w.ownsRow 0 3 1 v L.length (L.map (Value.int .i64))
theorem cnt_take {L : List Int} {k : Nat} {x : Int} (h : L[k]? = some x) (p : Int) : cnt (L.take (k + 1)) p = cnt (L.take k) p + if x = p then 1 else 0 := by
  rw [List.take_add_one, h]
  simp only [Option.toList]
  exact cnt_append _ _ _

set_option maxRecDepth 100000 in
set_option maxHeartbeats 4000000 in
theorem rof_any (h : Nat) (L : List Int) (p : Int) (w : World) (G : Nat → Prop) (hT : RC w G h L) (hL : L.length ≤ 65536) :
    Calls Try.prog 10 #[.pointer (some ⟨h, 0, none⟩), .int .i64 p] w fun e w' => e = .returned (.int .i64 (cnt L p : Int)) ∧ w = w' := by
  obtain ⟨v, fl, fg, fv, hB, hR⟩ := hT
  obtain ⟨A0, c0, rfl, _, _⟩ := ownsRow_form hR
  have hc : w.cell? ⟨h, 0, none⟩ = some (.slice A0 L.length c0) := by rw [hB.cell]; rfl
  have HR := Lib.hid hR
  clear hR hB
  go_enter Try.func10, Try.ntmps10
  go_wp2_with fail
  go_loop [5, 6] (fun s i => ∃ k : Nat, k ≤ L.length ∧ i = .int .i64 (k : Int) ∧ s = .int .i64 (cnt (L.take k) p : Int)) (fun _ i => L.length - (intOf i).toNat)
  case atStart => exact ⟨0, Nat.zero_le _, rfl, rfl⟩
  case round =>
    obtain ⟨k, hk, rfl, rfl⟩ := hrel
    obtain ⟨z, hz⟩ : ∃ z : Int, (cnt (L.take k) p : Int) = z := ⟨_, rfl⟩
    have hz0 : 0 ≤ z := by omega
    have hz1 : z ≤ 65536 := by have := cnt_le (L.take k) p; have h2 := List.length_take_le k L; omega
    by_cases hlt : k < L.length
    · obtain ⟨g6, c7, he7, _, _, _, _, hc7⟩ := ownsRow_at HR.out hlt
      injection he7 with e1 e2 e3
      subst e1 e3
      clear e2
      obtain ⟨x, hx⟩ : ∃ x, L[k]? = some x := ⟨_, List.getElem?_eq_getElem hlt⟩
      have cx : w.cell? ⟨g6, k, none⟩ = some (.int .i64 x) := hc7 k _ (by rw [List.getElem?_map, hx]; rfl)
      have HZ := Lib.hid (cnt_take hx p)
      have HZZ := Lib.hid hz
      rw [hz]
      clear hz hx hc7
      by_cases hxp : x = p
      · subst hxp
        go_wp2_with fail
        go_round
        case rel => exact ⟨k + 1, by omega, by go_num, by rw [HZ.out, ← HZZ.out]; simp⟩
        case measure => simp [intOf]; omega
      · have hne : (x == p) = false := by simpa using hxp
        go_wp2_with fail
        go_round
        case rel => exact ⟨k + 1, by omega, by go_num, by rw [HZ.out, ← HZZ.out]; simp [hxp]⟩
        case measure => simp [intOf]; omega
    · obtain rfl : k = L.length := by omega
      rw [List.take_length] at hz
      rw [List.take_length]
      clear hz
      go_wp2_with fail
      go_ret
      exact ⟨ret1_i rfl, rfl⟩
end Go.Proofs.Ytbldebjdgenfdaa.Fx
