/- OverBytes, by its contract: it writes over a row of the caller's own, and over nothing else. -/
import Derived.Test.YtbpdaoedmjpdpaaHashBytesQ
namespace Go.Proofs.Ytbpdaoedmjpdpaa.Hs
open Go.RowKit K
set_option linter.unusedVariables false
set_option linter.unusedSimpArgs false

theorem xor_u8 (x : B8) : ∃ y : B8, bits .xor .u8 x.1 90 = y.1 := by
  refine ⟨b8 (bits .xor .u8 x.1 90), ?_⟩
  show _ = bits .xor .u8 x.1 90 % 256
  have h : 0 ≤ bits .xor .u8 x.1 90 ∧ bits .xor .u8 x.1 90 < 256 := by
    show 0 ≤ IntKind.u8.wrap _ ∧ IntKind.u8.wrap _ < 256
    simp only [IntKind.wrap, IntKind.bits, IntKind.signed]
    constructor
    · simp; omega
    · simp; omega
  omega
theorem grown_trans {w w' w2 : World} {row : Option Nat} (h : w.grownBy w' row) (h' : w'.grownBy w2 row) : w.grownBy w2 row :=
  ⟨h'.os.trans h.os, h'.tape.trans h.tape, h'.output.trans h.output, Nat.le_trans h.size h'.size, fun k hk hr => (h'.block k (Nat.lt_of_lt_of_le hk h.size) hr).trans (h.block k hk hr)⟩
set_option maxRecDepth 100000 in
set_option maxHeartbeats 4000000 in
theorem over_any (base : Nat) (v : Value) (n : Nat) (xs : List Value) (w : World) (hr : w.ownsRow base 5 1 v n xs) (hq : RowQ U8V w v) :
    Calls Try.prog 27 #[v] w fun e w' => e = .returned (.tuple #[]) ∧ w.grownBy w' v.ownBlock := by
  rcases hr.2 with ⟨rfl, rfl⟩ | ⟨g, cap, cur, rfl, hbg, hg, hnc, hcm, hcs, htake⟩
  · go_enter Try.func27, Try.ntmps27
    go_wp2_with fail
    go_loopw [3] (fun i w' => i = .int .i64 0 ∧ w = w') (fun i _ => 0)
    case atStart => exact ⟨rfl, rfl⟩
    case round =>
      obtain ⟨rfl, rfl⟩ := hrel
      go_wp2_with fail
      go_end0
      exact ⟨rfl, World.grownBy.refl _ _⟩
  · have hcap : cap ≤ 9223372036854775807 := by unfold maxLen at hcm; omega
    have hq' := hq g rfl cur 5 (0, 0) hg
    have HQ := Lib.hid hq'
    have HCS := Lib.hid (show cur.size = cap from by omega)
    have HG := Lib.hid (show Blk w g 5 cur from hg)
    clear hr hq hq' hg hcs htake
    go_enter Try.func27, Try.ntmps27
    go_wp2_with fail
    go_loopw [3] (fun i w' => ∃ (k : Nat) (c' : Array Value), k ≤ cap ∧ i = .int .i64 (k : Int) ∧ Blk w' g 5 c' ∧ c'.size = cap ∧ (∀ u ∈ c'.toList, U8V u) ∧ w.grownBy w' (some g)) (fun i _ => cap - (intOf i).toNat)
    case atStart => exact ⟨0, cur, Nat.zero_le _, rfl, HG.out, HCS.out, HQ.out, World.grownBy.refl _ _⟩
    case round =>
      obtain ⟨k, c', hk, rfl, hG, hcs, hu, hgr⟩ := hrel
      by_cases hlt : k < cap
      · obtain ⟨u, hcu⟩ : ∃ u, c'[k]? = some u := ⟨_, Array.getElem?_eq_getElem (by omega)⟩
        obtain ⟨x, rfl⟩ := hu u (List.mem_of_getElem? (by rw [Array.getElem?_toList]; exact hcu))
        obtain ⟨y, hy⟩ := xor_u8 x
        have hcell : wr.cell? ⟨g, k, none⟩ = some (.int .u8 x.1) := by rw [hG.cell]; exact hcu
        have hfz := hG.frozen k
        have HG2 := Lib.hid (hG.set_ k (.int .u8 y.1))
        have HGR := Lib.hid hgr
        have HU := Lib.hid hu
        have x0 := x.2.1
        have x1 := x.2.2
        clear hG hgr hu hcu
        go_wp2_with fail
        refine ⟨⟨k + 1, _, by omega, by go_num, HG2.out, by rw [Array.size_setIfInBounds]; exact hcs, fun u hu => ?_, ?_⟩, by simp [intOf]; omega⟩
        · rw [Array.toList_setIfInBounds] at hu
          rcases List.mem_or_eq_of_mem_set hu with h | h
          · exact HU.out u h
          · exact ⟨y, h⟩
        · exact grown_trans HGR.out (by
            refine ⟨rfl, rfl, rfl, by simp [World.setCell], fun j _ hj => Below.heap_setCell _ _ _ j (fun e => hj (congrArg some e))⟩)
      · obtain rfl : k = cap := by omega
        have HGR := Lib.hid hgr
        clear hG hgr hu
        go_wp2_with fail
        go_end0
        exact ⟨rfl, HGR.out⟩
end Go.Proofs.Ytbpdaoedmjpdpaa.Hs
