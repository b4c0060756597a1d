/- The document's less of a count, by its contract (under way). -/
import Derived.Test.YtbldebjdgenfdaaRefFixA
namespace Go.Proofs.Ytbldebjdgenfdaa.Fx
open Go.RowKit K
set_option linter.unusedVariables false
set_option linter.unusedSimpArgs false

def LRel (w0 : World) (L : List Int) (p : Int) (m : Nat) (a v i : Value) (wr : World) : Prop :=
  ∃ (k M : Nat) (O : List Int), k ≤ L.length ∧ i = .int .i64 (k : Int) ∧ a = .int .i64 (M : Int) ∧ M ≤ m ∧ O.length ≤ k ∧ O ++ less (L.drop k) p M = less L p m ∧ wr.ownsRow w0.heap.size 3 1 v O.length (O.map (Value.int .i64)) ∧ Below w0.heap.size w0 wr

theorem rmoved_less {w wr : World} {G : Nat → Prop} {h c1 : Nat} {A1 : Option Addr} {O : List Int} {u : Value} (fl : ∀ k, G k → k < w.heap.size) (fg : G h) (hB : Blk w h 28 #[u])
    (hown : wr.ownsRow w.heap.size 3 1 (.slice A1 O.length c1) O.length (O.map (Value.int .i64))) (hb : Below w.heap.size w wr) : RMoved w G h O (wr.setCell ⟨h, 0, none⟩ (.slice A1 O.length c1)) := by
  have hB1 := (hB.below hb hB.lt).set_ 0 (.slice A1 O.length c1)
  have hne : (Value.slice A1 O.length c1).ownBlock ≠ some h := fun e => by have := (hown.lt h e).1; have := hB.lt; omega
  have s1 := hb.size
  refine ⟨fun k => (G k ∨ w.heap.size ≤ k) ∧ k < (wr.setCell ⟨h, 0, none⟩ (.slice A1 O.length c1)).heap.size, ⟨.slice A1 O.length c1, fun k hk => hk.2, ⟨.inl fg, by have := hB.lt; simp [World.setCell]; omega⟩, fun r hr => ⟨.inr (hown.lt r hr).1, by simpa [World.setCell] using (hown.lt r hr).2⟩, by simpa using hB1, ?_⟩, fun k hk => hk.1, ?_⟩
  · exact ownsRow_base (ownsRow_setCell_other hown (a := ⟨h, 0, none⟩) hne _) (fun r hr => Nat.zero_le r)
  · exact (Keep.new hb).setCell (p := ⟨h, 0, none⟩) (.inl fg) _

set_option maxRecDepth 100000 in
set_option maxHeartbeats 4000000 in
theorem rless_any (h : Nat) (L : List Int) (p : Int) (m : Nat) (w : World) (G : Nat → Prop) (hT : RC w G h L) (hL : L.length ≤ 65536) (hm : m ≤ 65536) :
    Calls Try.prog 28 #[.pointer (some ⟨h, 0, none⟩), .int .i64 p, .int .i64 (m : Int)] w fun e w' => e = .returned (.tuple #[]) ∧ RMoved w G h (less L p m) w' := by
  obtain ⟨v, fl, fg, fv, hB, hR⟩ := hT
  obtain ⟨A0, c0, rfl, _, _⟩ := ownsRow_form hR
  have hc : w.cell? ⟨h, 0, none⟩ = some (.slice A0 L.length c0) := by rw [hB.cell]; rfl
  have hh := hB.lt
  obtain ⟨i0, hi, hz0, hz1, hz2⟩ := info_parts info3'
  have HR := Lib.hid hR; have HB := Lib.hid hB
  clear hR hB
  go_enter Try.func28, Try.ntmps28
  go_wp2_with fail
  go_loopw [2, 6, 7] (fun a v i wr => LRel w L p m a v i wr) (fun _ _ i _ => L.length - (intOf i).toNat)
  case atStart => exact ⟨0, m, [], Nat.zero_le _, rfl, rfl, Nat.le_refl _, by simp, by simp, World.ownsRow_nil _ _ _ _, Below.refl _ _⟩
  case round =>
    obtain ⟨k, M, O, hk, rfl, rfl, hM, hOk, hO, hown, hb⟩ := hrel
    obtain ⟨A1, c1, rfl, _, _⟩ := ownsRow_form hown
    have hcr : wr.cell? ⟨h, 0, none⟩ = some (.slice A0 L.length c0) := (hb.cell (p := ⟨h, 0, none⟩) hh).trans hc
    have HO := Lib.hid hO
    clear hO
    by_cases hlt : k < L.length
    · obtain ⟨g6, c7, he7, _, _, _, hg6, hc7⟩ := ownsRow_at HR.out hlt
      injection he7 with e1 e2 e3
      subst e1 e3
      clear e2
      obtain ⟨x, hx⟩ : ∃ x, L[k]? = some x := ⟨_, List.getElem?_eq_getElem hlt⟩
      have cx : wr.cell? ⟨g6, k, none⟩ = some (.int .i64 x) := (hb.cell (p := ⟨g6, k, none⟩) hg6).trans (hc7 k _ (by rw [List.getElem?_map, hx]; rfl))
      have HD := Lib.hid (show L.drop k = x :: L.drop (k + 1) from by
        rw [List.drop_eq_getElem_cons hlt]
        rw [List.getElem?_eq_getElem hlt] at hx
        injection hx with hx
        rw [hx])
      clear hx hc7
      by_cases hxp : x = p ∧ 0 < M
      · obtain ⟨rfl, hM0⟩ := hxp
        obtain ⟨j, rfl⟩ : ∃ j, M = j + 1 := ⟨M - 1, by omega⟩
        have hj0 : (0 : Int) < ((j + 1 : Nat) : Int) := by omega
        go_wp2_with fail
        go_roundw
        case rel => exact ⟨k + 1, j, O, by omega, by go_num, by go_num, by omega, by omega, by rw [← HO.out, HD.out]; simp [less], hown, hb⟩
        case measure => simp [intOf]; omega
      · have hxp' : ¬ (x = p ∧ 0 < M) := hxp
        have b1 : O.length + 1 ≤ maxLen := by unfold maxLen; omega
        have b2 : (O.length + 1) * 8 ≤ 140737488355328 := by omega
        have b3 : w.heap.size ≤ (wr.alloc (.cells #[.int .i64 x] 3)).heap.size := by have := hb.size; simp; omega
        by_cases hxe : x = p
        · have hM0 : M = 0 := by
            rcases Nat.eq_zero_or_pos M with h | h
            · exact h
            · exact absurd ⟨hxe, h⟩ hxp
          subst hM0
          clear hxp'
          subst hxe
          go_wp2_with (first
            | (at_builtin; refine wpList_append_own_at _ rfl _ _ 26 rfl w.heap.size 3 i0 _ 1 8 Try.underlying26 hi hz0 hz1 hz2 rfl (by decide) _ _ _ rfl (hown.alloc _) ⟨wr.heap.size, 0, none⟩ 1 1 [.int .i64 x] rfl rfl (cell_one_new _ _ _) (by simp [Value.oneCell']) b1 b2 b3 ?_; intro v3 w3 hR3 hg3 _ hat3)
            | fail)
          go_roundw
          case rel =>
            have hlen : (O ++ [x]).length = O.length + 1 := by simp
            refine ⟨k + 1, _, O ++ [x], by omega, by go_num, rfl, hM, by rw [hlen]; omega, by rw [← HO.out, HD.out]; simp [less, hxp], by rw [hlen]; simpa using hR3, (hb.alloc hb.size _).grown hg3 (by have := hb.size; simp; omega) (fun r hr => (hown.lt r hr).1)⟩
          case measure => simp [intOf]; omega
        · have hne : (x == p) = false := by simpa using hxe
          clear hxp'
          go_wp2_with (first
            | (at_builtin; refine wpList_append_own_at _ rfl _ _ 26 rfl w.heap.size 3 i0 _ 1 8 Try.underlying26 hi hz0 hz1 hz2 rfl (by decide) _ _ _ rfl (hown.alloc _) ⟨wr.heap.size, 0, none⟩ 1 1 [.int .i64 x] rfl rfl (cell_one_new _ _ _) (by simp [Value.oneCell']) b1 b2 b3 ?_; intro v3 w3 hR3 hg3 _ hat3)
            | fail)
          go_roundw
          case rel =>
            have hlen : (O ++ [x]).length = O.length + 1 := by simp
            refine ⟨k + 1, _, O ++ [x], by omega, by go_num, rfl, hM, by rw [hlen]; omega, by rw [← HO.out, HD.out]; simp [less, hxp], by rw [hlen]; simpa using hR3, (hb.alloc hb.size _).grown hg3 (by have := hb.size; simp; omega) (fun r hr => (hown.lt r hr).1)⟩
          case measure => simp [intOf]; omega
    · obtain rfl : k = L.length := by omega
      have fz : wr.frozen? ⟨h, 0, none⟩ = false := (HB.out.below hb hh).frozen 0
      have hOO : O = less L p m := by
        have := HO.out
        rw [List.drop_length] at this
        simpa [less] using this
      have HOO := Lib.hid hOO
      clear hOO
      go_wp2_with fail
      go_end0
      refine ⟨rfl, ?_⟩
      rw [← HOO.out]
      exact rmoved_less fl fg HB.out hown hb
end Go.Proofs.Ytbldebjdgenfdaa.Fx
