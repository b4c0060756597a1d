/- The package fix's functions, each by its contract. -/
import Derived.Test.YtbldebjdgenfdaaFixSpec
import Derived.Outline
import Derived.Deep.QuietTactic
import Derived.BigQuiet
import Derived.WalkLawsBesides
import Derived.WalkSpells
namespace Go.Proofs.Ytbldebjdgenfdaa.Fx
open Go.RowKit K
set_option linter.unusedVariables false
set_option linter.unusedSimpArgs false

theorem none_no (g : Nat) (bm : Nat) (w : World) (h : w.cell? ⟨g, 0, none⟩ = some (.map (some bm))) :
    Calls Try.prog 25 #[.pointer (some ⟨g, 0, none⟩)] w fun e w' => e = .returned (.bool false) ∧ w = w' := by
  have hm := fun (w : World) => run_eql_map_nil (P := Try.prog) w 39 3 3 (some bm) Try.underlying39
  go_enter Try.func25, Try.ntmps25
  go_wp2
  go_ret
  exact ⟨ret1_b rfl, rfl⟩
theorem law : Go.Maps.Keyed Try.prog 3 := Go.Maps.int_keyed Try.underlying3
theorem zeroE (w : World) : (zeroValue 3).run Try.prog w = .ok (.int .i64 0) w := by kernel_rfl

def Made (w : World) (e : Ending) (w' : World) : Prop :=
  ∃ g, e = .returned (.pointer (some ⟨g, 0, none⟩)) ∧ CT w' (fun k => w.heap.size ≤ k ∧ k < w'.heap.size) g 0 [] ∧ Below w.heap.size w w'
theorem new_any (w : World) : Calls Try.prog 7 #[] w (Made w) := by
  have hmm := @run_makeMap Try.prog
  go_enter Try.func7, Try.ntmps7
  go_wp2
  go_ret
  refine ⟨w.heap.size + 1, rfl, ⟨w.heap.size, .map [], fun k hk => hk.2, by simp, by simp; omega, ?_, ?_, mapIs_nil⟩, ?_⟩
  · have := Blk.new (w.alloc (.map #[] 0)) 41 #[.map (some w.heap.size), .int .i64 0]
    simpa using this
  · exact (World.ownsMap_made w _ _ _).alloc _
  · exact ((Below.refl _ _).alloc (Nat.le_refl _) _).alloc (by simp) _

/-! ### Add -/
def adE (p : Int) : Int := if p < 0 ∨ 1073741824 < p then 2 else 0
def adL (L : List Int) (p : Int) : List Int := if p < 0 ∨ 1073741824 < p then L else L ++ [p]
set_option maxRecDepth 100000 in
set_option maxHeartbeats 4000000 in
theorem add_any (g n : Nat) (L : List Int) (p : Int) (w : World) (F : Nat → Prop) (hT : CT w F g n L) (hp : (Lit.int .i64 p).wf = true) (hL : L.length < 1073741824) (hn : n < 1099511627776) :
    Calls Try.prog 19 #[.pointer (some ⟨g, 0, none⟩), .int .i64 p] w fun e w' => e = .returned (.int .i64 (adE p)) ∧ Moved w F g (n + 1) (adL L p) w' := by
  have HT := Lib.hid (show Moved w F g (n + 1) L w from ⟨hT.more (Nat.le_succ n), Keep.refl _ _⟩)
  have hkey : keyOf Try.prog 3 (.int .i64 p) = some (.int .i64 p) := Go.Maps.keyOf_int_mk Try.underlying3 hp
  obtain ⟨p1, p2⟩ := bounds_i64 hp
  obtain ⟨bm, D, fl, fg, fm, hB, hM, hD⟩ := hT
  have c0 : w.cell? ⟨g, 0, none⟩ = some (.map (some bm)) := by rw [hB.cell]; rfl
  have c1 : w.cell? ⟨g, 1, none⟩ = some (.int .i64 (L.length : Int)) := by rw [hB.cell]; rfl
  by_cases h1 : p < 0
  · have E1 := Lib.hid (show adE p = 2 from by unfold adE; rw [if_pos (.inl h1)])
    have E2 := Lib.hid (show adL L p = L from by unfold adL; rw [if_pos (.inl h1)])
    clear hD hM hB hp hkey
    go_enter Try.func19, Try.ntmps19
    go_wp2_with (go_at_call 25; refine (none_no g bm _ c0).mono ?_; rintro e w1 ⟨rfl, rfl⟩)
    go_ret
    exact ⟨ret1_i E1.out.symm, by rw [E2.out]; exact HT.out⟩
  · by_cases h2 : 1073741824 < p
    · have E1 := Lib.hid (show adE p = 2 from by unfold adE; rw [if_pos (.inr h2)])
      have E2 := Lib.hid (show adL L p = L from by unfold adL; rw [if_pos (.inr h2)])
      clear hD hM hB hp hkey
      go_enter Try.func19, Try.ntmps19
      go_wp2_with (go_at_call 25; refine (none_no g bm _ c0).mono ?_; rintro e w1 ⟨rfl, rfl⟩)
      go_ret
      exact ⟨ret1_i E1.out.symm, by rw [E2.out]; exact HT.out⟩
    · have E1 := Lib.hid (show adE p = 0 from by unfold adE; rw [if_neg (by omega)])
      have E2 := Lib.hid (show adL L p = L ++ [p] from by unfold adL; rw [if_neg (by omega)])
      obtain ⟨k, hk⟩ : ∃ k, cnt L p = k := ⟨_, rfl⟩
      have k1 : k ≤ L.length := by rw [← hk]; exact cnt_le L p
      have HA := Lib.hid (show D.atKey (.int .i64 p) (.lit (.int .i64 0)) = .lit (.int .i64 (k : Int)) from by rw [← hk]; exact (hD.2 p).2)
      have HK := Lib.hid hk
      have HD := Lib.hid hD
      have hbg : bm ≠ g := map_blk_ne hM hB
      have hn2 : n < maxLen := by unfold maxLen; omega
      obtain ⟨t, ht⟩ : ∃ t : Int, (L.length : Int) = t := ⟨_, rfl⟩
      have hL2 : t < 1073741824 := by omega
      have hL3 : 0 ≤ t := by omega
      obtain ⟨y, hy⟩ : ∃ y : Int, (k : Int) = y := ⟨_, rfl⟩
      have hk2 : y < 1073741824 := by omega
      have hk3 : 0 ≤ y := by omega
      rw [ht] at c1 hB
      rw [hy] at HA
      have HT2 := Lib.hid ht; have HY := Lib.hid hy
      have p3 : 0 ≤ p := by omega
      have p4 : p ≤ 1073741824 := by omega
      clear hk hD hp hL hn k1 p1 p2 h1 h2 ht hy
      go_enter Try.func19, Try.ntmps19
      go_wp2_with (first
        | (go_at_call 25; refine (none_no g bm _ c0).mono ?_; rintro e w1 ⟨rfl, rfl⟩)
        | (at_lookup; refine wpList_lookup_own_int _ rfl _ _ 39 rfl 3 3 .i64 law Try.underlying39 Try.underlying3 (zeroE _) bm n D rfl hM _ _ rfl hkey ?_; intro c hat hwc
           obtain rfl : y = c := by
             have := HA.out.symm.trans hat
             simpa using this
           clear hat hwc)
        | (at_mapUpdate; refine wpList_mapUpdate_own _ rfl _ _ _ 39 rfl 3 3 law Try.underlying39 _ bm n D rfl hM hn2 _ _ _ rfl rfl hkey _ [] (plainElem_int Try.underlying3 (WalkArith.wf_i64 (by omega))) ?_; intro w2 hM2 hg2
           have hB2 := hB.grown hg2 (by simpa using fun e => hbg e.symm)
           have c1' : w2.cell? ⟨g, 1, none⟩ = some (.int .i64 t) := by rw [hB2.cell]; rfl
           have f1' : w2.frozen? ⟨g, 1, none⟩ = false := hB2.frozen 1))
      go_ret
      have hgr := hg2.size
      refine ⟨ret1_i E1.out.symm, ?_⟩
      rw [E2.out]
      have hM3 := hM2.setCell (a := ⟨g, 1, none⟩) hbg (.int .i64 (t + 1))
      rw [show y + 1 = ((k + 1 : Nat) : Int) from by have := HY.out; omega] at hM3
      refine ⟨⟨bm, _, fun j hj => ?_, fg, fm, ?_, hM3, mapIs_put (m := k + 1) HD.out (Nat.succ_pos k) (fun q => ?_)⟩, ((Keep.refl F w).grown hg2 (fun k hk => by injection hk with hk; subst hk; exact .inl fm)).setCell (.inl fg) _⟩
      · have := fl j hj
        simp [World.setCell]; omega
      · have := hB2.set_ 1 (.int .i64 (t + 1))
        rw [← HT2.out] at this ⊢
        simpa using this
      · rw [cnt_append]
        by_cases e : q = p
        · subst e; simp [HK.out]
        · have e' : ¬ p = q := fun h => e h.symm
          simp [e, e']
end Go.Proofs.Ytbldebjdgenfdaa.Fx
