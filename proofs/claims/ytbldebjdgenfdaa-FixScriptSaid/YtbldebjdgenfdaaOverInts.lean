/- OverInts, by its contract: it writes over a row of the caller's own, and over nothing else. -/
import Derived.Test.YtbldebjdgenfdaaLawKit
import Derived.Test.YtbldebjdgenfdaaRows2
namespace Go.Proofs.Ytbldebjdgenfdaa.K
open Go.RowKit
set_option linter.unusedVariables false
set_option linter.unusedSimpArgs false

theorem grown_trans {w w' w2 : World} {row : Option Nat} (h : w.grownBy w' row) (h' : w'.grownBy w2 row) : w.grownBy w2 row :=
  ⟨h'.os.trans h.os, h'.tape.trans h.tape, h'.output.trans h.output, Nat.le_trans h.size h'.size, fun k hk hr => (h'.block k (Nat.lt_of_lt_of_le hk h.size) hr).trans (h.block k hk hr)⟩
set_option maxRecDepth 100000 in
set_option maxHeartbeats 4000000 in
theorem overInts_any (base : Nat) (v : Value) (n : Nat) (xs : List Value) (w : World) (hr : w.ownsRow base 3 1 v n xs) :
    Calls Try.prog 15 #[v] w fun e w' => e = .returned (.tuple #[]) ∧ w.grownBy w' v.ownBlock := by
  rcases hr.2 with ⟨rfl, rfl⟩ | ⟨g, cap, cur, rfl, hbg, hg, hnc, hcm, hcs, htake⟩
  · go_enter Try.func15, Try.ntmps15
    go_wp2_with fail
    go_loopw [2] (fun i w' => i = .int .i64 0 ∧ w = w') (fun i _ => 0)
    case atStart => exact ⟨rfl, rfl⟩
    case round =>
      obtain ⟨rfl, rfl⟩ := hrel
      go_wp2_with fail
      go_end0
      exact ⟨rfl, World.grownBy.refl _ _⟩
  · have hcap : cap ≤ 9223372036854775807 := by unfold maxLen at hcm; omega
    have HCS := Lib.hid (show cur.size = cap from by omega)
    have HG := Lib.hid (show Blk w g 3 cur from hg)
    clear hr hg hcs htake
    go_enter Try.func15, Try.ntmps15
    go_wp2_with fail
    go_loopw [2] (fun i w' => ∃ (k : Nat) (c' : Array Value), k ≤ cap ∧ i = .int .i64 (k : Int) ∧ Blk w' g 3 c' ∧ c'.size = cap ∧ w.grownBy w' (some g)) (fun i _ => cap - (intOf i).toNat)
    case atStart => exact ⟨0, cur, Nat.zero_le _, rfl, HG.out, HCS.out, World.grownBy.refl _ _⟩
    case round =>
      obtain ⟨k, c', hk, rfl, hG, hcs, hgr⟩ := hrel
      by_cases hlt : k < cap
      · obtain ⟨u, hcu⟩ : ∃ u, c'[k]? = some u := ⟨_, Array.getElem?_eq_getElem (by omega)⟩
        have hcell : wr.cell? ⟨g, k, none⟩ = some u := by rw [hG.cell]; exact hcu
        have hfz := hG.frozen k
        have HG2 := Lib.hid (hG.set_ k (.int .i64 (-77)))
        have HGR := Lib.hid hgr
        clear hG hgr hcu
        go_wp2_with fail
        refine ⟨⟨k + 1, _, by omega, by go_num, HG2.out, by rw [Array.size_setIfInBounds]; exact hcs, ?_⟩, by simp [intOf]; omega⟩
        exact grown_trans HGR.out (by
            refine ⟨rfl, rfl, rfl, by simp [World.setCell], fun j _ hj => Below.heap_setCell _ _ _ j (fun e => hj (congrArg some e))⟩)
      · obtain rfl : k = cap := by omega
        have HGR := Lib.hid hgr
        clear hG hgr
        go_wp2_with fail
        go_end0
        exact ⟨rfl, HGR.out⟩
end Go.Proofs.Ytbldebjdgenfdaa.K
