/- Drop of a count, by its contract; and what a count answers that is nil, or that nobody made. (Printed by wip/bin/gen_fix3.py.) -/
import Derived.Test.YtbldebjdgenfdaaFix2
namespace Go.Proofs.Ytbldebjdgenfdaa.Fx
open Go.RowKit K
set_option linter.unusedVariables false
set_option linter.unusedSimpArgs false

theorem moved_drop {w w2 : World} {F : Nat → Prop} {g bm n : Nat} {L L' : List Int} {p t y : Int} {D : DataW Unit} (fl : ∀ k, F k → k < w.heap.size) (fg : F g) (fm : F bm) (hD : MapIs D L) (hg2 : w.grownBy w2 (some bm))
    (hM2 : w2.ownsMap Try.prog 3 (plainElem Try.prog 3) bm n (D.del (.int .i64 p))) (hB2 : Blk w2 g 41 #[.map (some bm), .int .i64 t]) (hbg : bm ≠ g) (hc : ∀ q, cnt L' q = if q = p then cnt L p - cnt L p else cnt L q) (hl : (L'.length : Int) = y) (k : Nat) :
    Moved w F g n L' ((w2.setCell ⟨g, 1, none⟩ (.int .i64 y)).drewN k) := by
  have s1 := hg2.size
  refine ⟨⟨bm, _, fun i hi => ?_, fg, fm, ?_, World.ownsMap.setCell hM2 hbg _, mapIs_del (p := p) hD (fun q => ?_)⟩, (((Keep.refl F w).grown hg2 (fun k hk => by injection hk with hk; subst hk; exact .inl fm)).setCell (p := ⟨g, 1, none⟩) (.inl fg) _).drewN k⟩
  · have := fl i hi
    simp [World.setCell]
    omega
  · have := (hB2.set_ 1 (.int .i64 y)).drewN k
    rw [hl]
    simpa using this
  · rw [hc q, Nat.sub_self]

set_option maxRecDepth 100000 in
set_option maxHeartbeats 4000000 in
theorem drop_any (g n : Nat) (L : List Int) (p : Int) (w : World) (F : Nat → Prop) (hT : CT w F g n L) (hp : (Lit.int .i64 p).wf = true) (hL : L.length ≤ 1073741824) :
    Calls Try.prog 18 #[.pointer (some ⟨g, 0, none⟩), .int .i64 p] w fun e w' => e = .returned (.tuple #[.int .i64 (cnt L p : Int), .bool (dpB L p)]) ∧ Moved w F g n (less L p (cnt L p)) w' := by
  have hkey : keyOf Try.prog 3 (.int .i64 p) = some (.int .i64 p) := Go.Maps.keyOf_int_mk Try.underlying3 hp
  obtain ⟨bm, D, fl, fg, fm, hB, hM, hD⟩ := hT
  have c0 : w.cell? ⟨g, 0, none⟩ = some (.map (some bm)) := by rw [hB.cell]; rfl
  have c1 : w.cell? ⟨g, 1, none⟩ = some (.int .i64 (L.length : Int)) := by rw [hB.cell]; rfl
  have k1 : cnt L p ≤ L.length := cnt_le L p
  have hll := less_length L p (cnt L p) (Nat.le_refl _)
  have hcl := fun q => cnt_less L p (cnt L p) q
  obtain ⟨y, hy⟩ : ∃ y : Int, ((cnt L p : Nat) : Int) = y := ⟨_, rfl⟩
  obtain ⟨t, ht⟩ : ∃ t : Int, (L.length : Int) = t := ⟨_, rfl⟩
  have t1 : t ≤ 1073741824 := by omega
  have t2 : 0 ≤ t := by omega
  have y1 : y ≤ t := by omega
  have y2 : 0 ≤ y := by omega
  have HA := Lib.hid (show D.atKey (.int .i64 p) (.lit (.int .i64 0)) = .lit (.int .i64 y) from by rw [← hy]; exact (hD.2 p).2)
  have hbg : bm ≠ g := map_blk_ne hM hB
  have HE := Lib.hid (show dpB L p = decide (0 < y ∧ t = y) from by unfold dpB; apply decide_eq_decide.2; omega)
  rw [ht] at c1 hB
  have hM3 := World.ownsMap.drew hM
  have HY := Lib.hid hy; have HT2 := Lib.hid ht; have HLL := Lib.hid hll; have HC := Lib.hid hcl; have HD := Lib.hid hD
  clear hy ht hll hcl hD hL k1 hp hM3
  by_cases h0 : 0 < y
  · by_cases h1 : t = y
    · have h2 : (t - y == 0) = true := by simp; omega
      have h3 : t - y = 0 := by omega
      go_enter Try.func18, Try.ntmps18
      go_wp2_with (first
        | (go_at_call 25; refine (none_no g bm _ c0).mono ?_; rintro e w1 ⟨rfl, rfl⟩)
        | (at_lookup; refine wpList_lookup_own_int _ rfl _ _ 39 rfl 3 3 .i64 law Try.underlying39 Try.underlying3 (zeroE _) bm n D rfl hM _ _ rfl hkey ?_; intro c hat hwc
           obtain rfl : y = c := by
             have := HA.out.symm.trans hat
             simpa using this
           clear hat hwc)
        | (at_delete; refine wpList_delete_own _ rfl _ _ 39 3 rfl 3 law Try.underlying39 (plainElem Try.prog 3) bm n D rfl hM _ _ rfl hkey ?_; intro w2 hM2 ht2
           have hg2 := ht2.grown
           have hB2 := hB.grown hg2 (by simpa using fun e => hbg e.symm)
           have c2 : w2.cell? ⟨g, 1, none⟩ = some (.int .i64 t) := by rw [hB2.cell]; rfl
           have f2 : w2.frozen? ⟨g, 1, none⟩ = false := hB2.frozen 1))
      go_quiet (fail)
      go_wp2_with fail
      go_ret2
      refine ⟨ret2_ib (by have := HY.out; omega) (by rw [HE.out]; simp; omega), ?_⟩
      refine moved_drop fl fg fm HD.out hg2 hM2 hB2 hbg HC.out ?_ nq
      have := HLL.out; have := HY.out; have := HT2.out; omega
    · have h2 : (t - y == 0) = false := by simp; omega
      go_enter Try.func18, Try.ntmps18
      go_wp2_with (first
        | (go_at_call 25; refine (none_no g bm _ c0).mono ?_; rintro e w1 ⟨rfl, rfl⟩)
        | (at_lookup; refine wpList_lookup_own_int _ rfl _ _ 39 rfl 3 3 .i64 law Try.underlying39 Try.underlying3 (zeroE _) bm n D rfl hM _ _ rfl hkey ?_; intro c hat hwc
           obtain rfl : y = c := by
             have := HA.out.symm.trans hat
             simpa using this
           clear hat hwc)
        | (at_delete; refine wpList_delete_own _ rfl _ _ 39 3 rfl 3 law Try.underlying39 (plainElem Try.prog 3) bm n D rfl hM _ _ rfl hkey ?_; intro w2 hM2 ht2
           have hg2 := ht2.grown
           have hB2 := hB.grown hg2 (by simpa using fun e => hbg e.symm)
           have c2 : w2.cell? ⟨g, 1, none⟩ = some (.int .i64 t) := by rw [hB2.cell]; rfl
           have f2 : w2.frozen? ⟨g, 1, none⟩ = false := hB2.frozen 1))
      go_quiet (fail)
      go_wp2_with fail
      go_ret2
      refine ⟨ret2_ib (by have := HY.out; omega) (by rw [HE.out]; simp; omega), ?_⟩
      refine moved_drop fl fg fm HD.out hg2 hM2 hB2 hbg HC.out ?_ nq
      have := HLL.out; have := HY.out; have := HT2.out; omega
  · have h2 : y = 0 := by omega
    go_enter Try.func18, Try.ntmps18
    go_wp2_with (first
      | (go_at_call 25; refine (none_no g bm _ c0).mono ?_; rintro e w1 ⟨rfl, rfl⟩)
      | (at_lookup; refine wpList_lookup_own_int _ rfl _ _ 39 rfl 3 3 .i64 law Try.underlying39 Try.underlying3 (zeroE _) bm n D rfl hM _ _ rfl hkey ?_; intro c hat hwc
         obtain rfl : y = c := by
           have := HA.out.symm.trans hat
           simpa using this
         clear hat hwc)
      | (at_delete; refine wpList_delete_own _ rfl _ _ 39 3 rfl 3 law Try.underlying39 (plainElem Try.prog 3) bm n D rfl hM _ _ rfl hkey ?_; intro w2 hM2 ht2
         have hg2 := ht2.grown
         have hB2 := hB.grown hg2 (by simpa using fun e => hbg e.symm)
         have c2 : w2.cell? ⟨g, 1, none⟩ = some (.int .i64 t) := by rw [hB2.cell]; rfl
         have f2 : w2.frozen? ⟨g, 1, none⟩ = false := hB2.frozen 1))
    go_quiet (fail)
    go_wp2_with fail
    go_ret2
    refine ⟨ret2_ib (by have := HY.out; omega) (by rw [HE.out]; simp; omega), ?_⟩
    refine moved_drop fl fg fm HD.out hg2 hM2 hB2 hbg HC.out ?_ nq
    have := HLL.out; have := HY.out; have := HT2.out; omega

/-! ### A count that is nil, or that nobody made -/
def NoCt (w : World) (p : Option Addr) : Prop := p = none ∨ ∃ g, p = some ⟨g, 0, none⟩ ∧ w.cell? ⟨g, 0, none⟩ = some (.map none)
theorem none_yes (p : Option Addr) (w : World) (h : NoCt w p) :
    Calls Try.prog 25 #[.pointer p] w fun e w' => e = .returned (.bool true) ∧ w = w' := by
  rcases h with rfl | ⟨g, rfl, hc⟩
  · go_enter Try.func25, Try.ntmps25
    go_wp2
    go_ret
    exact ⟨ret1_b rfl, rfl⟩
  · have hm := fun (w : World) => run_eql_map_nil (P := Try.prog) w 39 3 3 none Try.underlying39
    go_enter Try.func25, Try.ntmps25
    go_wp2
    go_ret
    exact ⟨ret1_b rfl, rfl⟩
theorem add_none (p : Option Addr) (k : Int) (w : World) (h : NoCt w p) :
    Calls Try.prog 19 #[.pointer p, .int .i64 k] w fun e w' => e = .returned (.int .i64 1) ∧ w = w' := by
  have H := Lib.hid h; clear h
  go_enter Try.func19, Try.ntmps19
  go_wp2_with (go_at_call 25; refine (none_yes p _ H.out).mono ?_; rintro e w1 ⟨rfl, rfl⟩)
  go_ret
  exact ⟨rfl, rfl⟩
theorem release_none (p : Option Addr) (k : Int) (w : World) (h : NoCt w p) :
    Calls Try.prog 17 #[.pointer p, .int .i64 k] w fun e w' => e = .returned (.tuple #[.bool false, .int .i64 1]) ∧ w = w' := by
  have H := Lib.hid h; clear h
  go_enter Try.func17, Try.ntmps17
  go_wp2_with (go_at_call 25; refine (none_yes p _ H.out).mono ?_; rintro e w1 ⟨rfl, rfl⟩)
  go_ret2
  exact ⟨rfl, rfl⟩
theorem drop_none (p : Option Addr) (k : Int) (w : World) (h : NoCt w p) :
    Calls Try.prog 18 #[.pointer p, .int .i64 k] w fun e w' => e = .returned (.tuple #[.int .i64 0, .bool false]) ∧ w = w' := by
  have H := Lib.hid h; clear h
  go_enter Try.func18, Try.ntmps18
  go_wp2_with (go_at_call 25; refine (none_yes p _ H.out).mono ?_; rintro e w1 ⟨rfl, rfl⟩)
  go_ret2
  exact ⟨rfl, rfl⟩
theorem of_none (p : Option Addr) (k : Int) (w : World) (h : NoCt w p) :
    Calls Try.prog 9 #[.pointer p, .int .i64 k] w fun e w' => e = .returned (.int .i64 0) ∧ w = w' := by
  have H := Lib.hid h; clear h
  go_enter Try.func9, Try.ntmps9
  go_wp2_with (go_at_call 25; refine (none_yes p _ H.out).mono ?_; rintro e w1 ⟨rfl, rfl⟩)
  go_ret
  exact ⟨rfl, rfl⟩
theorem total_none (p : Option Addr) (w : World) (h : NoCt w p) :
    Calls Try.prog 11 #[.pointer p] w fun e w' => e = .returned (.int .i64 0) ∧ w = w' := by
  have H := Lib.hid h; clear h
  go_enter Try.func11, Try.ntmps11
  go_wp2_with (go_at_call 25; refine (none_yes p _ H.out).mono ?_; rintro e w1 ⟨rfl, rfl⟩)
  go_ret
  exact ⟨rfl, rfl⟩
theorem holders_none (p : Option Addr) (w : World) (h : NoCt w p) :
    Calls Try.prog 12 #[.pointer p] w fun e w' => e = .returned (.slice none 0 0) ∧ w = w' := by
  have H := Lib.hid h; clear h
  go_enter Try.func12, Try.ntmps12
  go_wp2_with (go_at_call 25; refine (none_yes p _ H.out).mono ?_; rintro e w1 ⟨rfl, rfl⟩)
  go_ret
  exact ⟨rfl, rfl⟩
end Go.Proofs.Ytbldebjdgenfdaa.Fx
