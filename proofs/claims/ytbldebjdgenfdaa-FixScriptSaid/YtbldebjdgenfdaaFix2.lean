/- The package fix's Release, Drop, Of, Total, by contracts. -/
import Derived.Test.YtbldebjdgenfdaaFix
namespace Go.Proofs.Ytbldebjdgenfdaa.Fx
open Go.RowKit K
set_option linter.unusedVariables false
set_option linter.unusedSimpArgs false

theorem mapIs_put_del {D : DataW Unit} {L L' : List Int} {p : Int} {d : DataW Unit} (h : MapIs D L) (hL : ∀ q, cnt L' q = if q = p then 0 else cnt L q) : MapIs ((D.put (ky p) d).del (ky p)) L' := by
  refine ⟨(h.1.put (ky_lit p) _).del _, fun q => ?_⟩
  rw [hL q]
  by_cases e : q = p
  · subst e
    rw [if_pos rfl]
    exact ⟨by rw [Maps.has_del_same]; simp, by rw [Maps.atKey_del_same]; rfl⟩
  · rw [if_neg e]
    obtain ⟨h1, h2⟩ := h.2 q
    exact ⟨by rw [Maps.has_del_other (ky_ne e), Maps.has_put_other (ky_ne e), h1], by rw [Maps.atKey_del_other (ky_ne e), Maps.atKey_put_other (ky_ne e), h2]⟩

theorem less_absent {L : List Int} {p : Int} (h5 : p ∉ L) (m : Nat) : less L p m = L := by
  induction L with
  | nil => rfl
  | cons a r ih =>
    have h6 : ¬ a = p := fun e => h5 (by simp [e])
    have h7 : p ∉ r := fun e => h5 (by simp [e])
    simp [less, h6, ih h7]

/-! ### Of, Total -/
theorem of_any (g n : Nat) (L : List Int) (p : Int) (w : World) (F : Nat → Prop) (hT : CT w F g n L) (hp : (Lit.int .i64 p).wf = true) :
    Calls Try.prog 9 #[.pointer (some ⟨g, 0, none⟩), .int .i64 p] w fun e w' => e = .returned (.int .i64 (cnt L p : Int)) ∧ w = w' := by
  have hkey : keyOf Try.prog 3 (.int .i64 p) = some (.int .i64 p) := Go.Maps.keyOf_int_mk Try.underlying3 hp
  obtain ⟨bm, D, fl, fg, fm, hB, hM, hD⟩ := hT
  have c0 : w.cell? ⟨g, 0, none⟩ = some (.map (some bm)) := by rw [hB.cell]; rfl
  have HA := Lib.hid (show D.atKey (.int .i64 p) (.lit (.int .i64 0)) = .lit (.int .i64 (cnt L p : Int)) from (hD.2 p).2)
  clear hD hp
  go_enter Try.func9, Try.ntmps9
  go_wp2_with (first
    | (go_at_call 25; refine (none_no g bm _ c0).mono ?_; rintro e w1 ⟨rfl, rfl⟩)
    | (at_lookup; refine wpList_lookup_own_int _ rfl _ _ 39 rfl 3 3 .i64 law Try.underlying39 Try.underlying3 (zeroE _) bm n D rfl hM _ _ rfl hkey ?_; intro c hat hwc
       obtain rfl : c = (cnt L p : Int) := by
         have := HA.out.symm.trans hat
         simpa using this.symm
       clear hat hwc))
  go_ret
  exact ⟨ret1_i rfl, rfl⟩
theorem total_any (g n : Nat) (L : List Int) (w : World) (F : Nat → Prop) (hT : CT w F g n L) :
    Calls Try.prog 11 #[.pointer (some ⟨g, 0, none⟩)] w fun e w' => e = .returned (.int .i64 (L.length : Int)) ∧ w = w' := by
  obtain ⟨bm, D, fl, fg, fm, hB, hM, hD⟩ := hT
  have c0 : w.cell? ⟨g, 0, none⟩ = some (.map (some bm)) := by rw [hB.cell]; rfl
  have c1 : w.cell? ⟨g, 1, none⟩ = some (.int .i64 (L.length : Int)) := by rw [hB.cell]; rfl
  clear hD hM hB
  go_enter Try.func11, Try.ntmps11
  go_wp2_with (first
    | (go_at_call 25; refine (none_no g bm _ c0).mono ?_; rintro e w1 ⟨rfl, rfl⟩))
  go_ret
  exact ⟨ret1_i rfl, rfl⟩

/-! ### Release -/
def rlE (L : List Int) (p : Int) : Int := if cnt L p = 0 then 9 else 0
def rlB (L : List Int) (p : Int) : Bool := decide (0 < cnt L p ∧ L.length = 1)
set_option maxRecDepth 100000 in
set_option maxHeartbeats 4000000 in
theorem release_any (g n : Nat) (L : List Int) (p : Int) (w : World) (F : Nat → Prop) (hT : CT w F g n L) (hp : (Lit.int .i64 p).wf = true) (hL : L.length ≤ 1073741824) (hn : n < 1099511627776) :
    Calls Try.prog 17 #[.pointer (some ⟨g, 0, none⟩), .int .i64 p] w fun e w' => e = .returned (.tuple #[.bool (rlB L p), .int .i64 (rlE L p)]) ∧ Moved w F g (n + 1) (less L p 1) w' := by
  have hT0 := hT
  have hkey : keyOf Try.prog 3 (.int .i64 p) = some (.int .i64 p) := Go.Maps.keyOf_int_mk Try.underlying3 hp
  obtain ⟨bm, D, fl, fg, fm, hB, hM, hD⟩ := hT
  have c0 : w.cell? ⟨g, 0, none⟩ = some (.map (some bm)) := by rw [hB.cell]; rfl
  have c1 : w.cell? ⟨g, 1, none⟩ = some (.int .i64 (L.length : Int)) := by rw [hB.cell]; rfl
  obtain ⟨k, hk⟩ : ∃ k, cnt L p = k := ⟨_, rfl⟩
  have k1 : k ≤ L.length := by rw [← hk]; exact cnt_le L p
  have HA := Lib.hid (show D.atKey (.int .i64 p) (.lit (.int .i64 0)) = .lit (.int .i64 (k : Int)) from by rw [← hk]; exact (hD.2 p).2)
  have hcl := fun q => cnt_less L p 1 q
  have hll := less_length L p 1
  rw [hk] at hll
  simp only [hk] at hcl
  have HC := Lib.hid hcl
  have HLL := Lib.hid hll
  have HK := Lib.hid hk
  have HD := Lib.hid hD
  have hbg : bm ≠ g := map_blk_ne hM hB
  by_cases h0 : k = 0
  · have hs : less L p 1 = L := by
      have h5 : p ∉ L := fun hm => by have := cnt_pos.2 hm; omega
      exact less_absent h5 1
    have HT := Lib.hid (show Moved w F g (n + 1) (less L p 1) w from ⟨by rw [hs]; exact hT0.more (Nat.le_succ n), Keep.refl _ _⟩)
    have E1 := Lib.hid (show rlE L p = 9 from by unfold rlE; rw [hk, if_pos h0])
    have E2 := Lib.hid (show rlB L p = false from by unfold rlB; rw [hk]; simp [h0])
    subst h0
    clear hs hT0 hD hk hcl hll hB
    go_enter Try.func17, Try.ntmps17
    go_wp2_with (first
      | (go_at_call 25; refine (none_no g bm _ c0).mono ?_; rintro e w1 ⟨rfl, rfl⟩)
      | (at_lookup; refine wpList_lookup_own_int _ rfl _ _ 39 rfl 3 3 .i64 law Try.underlying39 Try.underlying3 (zeroE _) bm n D rfl hM _ _ rfl hkey ?_; intro c hat hwc
         obtain rfl : c = 0 := by
           have := HA.out.symm.trans hat
           simpa using this.symm
         clear hat hwc))
    go_ret2
    exact ⟨by rw [E1.out, E2.out]; rfl, HT.out⟩
  · have E1 := Lib.hid (show rlE L p = 0 from by unfold rlE; rw [hk, if_neg h0])
    have E2 := Lib.hid (show rlB L p = decide ((L.length : Int) - 1 = 0) from by
      unfold rlB
      rw [hk]
      apply decide_eq_decide.2
      omega)
    have h0' : 1 ≤ k := by omega
    obtain ⟨j, rfl⟩ : ∃ j, k = j + 1 := ⟨k - 1, by omega⟩
    obtain ⟨t, ht⟩ : ∃ t : Int, (L.length : Int) = t := ⟨_, rfl⟩
    have t1 : t ≤ 1073741824 := by omega
    have t2 : 1 ≤ t := by omega
    obtain ⟨y, hy⟩ : ∃ y : Int, ((j : Nat) : Int) = y := ⟨_, rfl⟩
    have y1 : y ≤ 1073741824 := by omega
    have y2 : 0 ≤ y := by omega
    have D2 := Lib.hid (show (D.put (.int .i64 p) (.lit (.int .i64 y))).atKey (.int .i64 p) (.lit (.int .i64 0)) = .lit (.int .i64 y) from Maps.atKey_put_same (k := ky p) hD.1.isMap (ky_lit p) _ _)
    have hn2 : n < maxLen := by unfold maxLen; omega
    have ejy : ((j + 1 : Nat) : Int) = y + 1 := by omega
    rw [ejy] at HA
    rw [ht] at c1 hB
    have E2' := Lib.hid (show rlB L p = decide (t - 1 = 0) from by rw [E2.out, ht])
    have HT2 := Lib.hid ht; have HY := Lib.hid hy
    clear E2 ejy
    by_cases hj : j = 0
    · have hy0 : y = 0 := by omega
      have HJ := Lib.hid hj
      clear hT0 hD hk hcl hll h0 ht hy hj hL hp hn k1 h0'
      subst hy0
      go_enter Try.func17, Try.ntmps17
      go_wp2_with (first
        | (go_at_call 25; refine (none_no g bm _ c0).mono ?_; rintro e w1 ⟨rfl, rfl⟩)
        | (at_lookup; refine wpList_lookup_own_int _ rfl _ _ 39 rfl 3 3 .i64 law Try.underlying39 Try.underlying3 (zeroE _) bm n D rfl hM _ _ rfl hkey ?_; intro c hat hwc
           obtain rfl : 0 + 1 = c := by
             have := HA.out.symm.trans hat
             simpa using this
           clear hat hwc)
        | (at_mapUpdate; refine wpList_mapUpdate_own _ rfl _ _ _ 39 rfl 3 3 law Try.underlying39 _ bm n D rfl hM hn2 _ _ _ rfl rfl hkey (.lit (.int .i64 0)) [] (plainElem_int Try.underlying3 (by decide)) ?_; intro w2 hM2 hg2
           have hB2 := hB.grown hg2 (by simpa using fun e => hbg e.symm)
           have c1' : w2.cell? ⟨g, 1, none⟩ = some (.int .i64 t) := by rw [hB2.cell]; rfl
           have c0' : w2.cell? ⟨g, 0, none⟩ = some (.map (some bm)) := by rw [hB2.cell]; rfl
           have f1' : w2.frozen? ⟨g, 1, none⟩ = false := hB2.frozen 1
           have hM3 := World.ownsMap.setCell hM2 (a := ⟨g, 1, none⟩) hbg (.int .i64 (t - 1))
           have hB3 := hB2.set_ 1 (.int .i64 (t - 1)))
        | (at_lookup; refine wpList_lookup_own_int _ rfl _ _ 39 rfl 3 3 .i64 law Try.underlying39 Try.underlying3 (zeroE _) bm (n + 1) (D.put (.int .i64 p) (.lit (.int .i64 0))) rfl hM3 _ _ rfl hkey ?_; intro c hat hwc
           obtain rfl : 0 = c := by
             have := D2.out.symm.trans hat
             simpa using this
           clear hat hwc)
        | (at_delete; refine wpList_delete_own _ rfl _ _ 39 3 rfl 3 law Try.underlying39 (plainElem Try.prog 3) bm (n + 1) (D.put (.int .i64 p) (.lit (.int .i64 0))) rfl hM3 _ _ rfl hkey ?_; intro w4 hM4 ht4
           have hB4 := hB3.grown ht4.grown (by simpa using fun e => hbg e.symm)
           have c4 : w4.cell? ⟨g, 1, none⟩ = some (.int .i64 (t - 1)) := by rw [hB4.cell]; rfl))
      go_ret2
      have s1 := hg2.size
      have s2 := ht4.grown.size
      have hl := HLL.out (by omega)
      refine ⟨by rw [E1.out, E2'.out]; rfl, ⟨bm, _, fun i hi => ?_, fg, fm, ?_, hM4, mapIs_put_del HD.out (fun q => ?_)⟩, (((Keep.refl F w).grown hg2 (fun k hk => by injection hk with hk; subst hk; exact .inl fm)).setCell (p := ⟨g, 1, none⟩) (.inl fg) _).grown ht4.grown (fun k hk => by injection hk with hk; subst hk; exact .inl fm)⟩
      · have := fl i hi
        simp [World.setCell] at s2
        omega
      · have e : (((less L p 1).length : Nat) : Int) = t - 1 := by have := HT2.out; omega
        rw [e]
        simpa using hB4
      · rw [HC.out q, HJ.out]
    · have hy0 : 1 ≤ y := by omega
      have HJ := Lib.hid (show 0 < j from by omega)
      clear hT0 hD hk hcl hll h0 ht hy hj hL hp hn k1 h0'
      go_enter Try.func17, Try.ntmps17
      go_wp2_with (first
        | (go_at_call 25; refine (none_no g bm _ c0).mono ?_; rintro e w1 ⟨rfl, rfl⟩)
        | (at_lookup; refine wpList_lookup_own_int _ rfl _ _ 39 rfl 3 3 .i64 law Try.underlying39 Try.underlying3 (zeroE _) bm n D rfl hM _ _ rfl hkey ?_; intro c hat hwc
           obtain rfl : y + 1 = c := by
             have := HA.out.symm.trans hat
             simpa using this
           clear hat hwc)
        | (at_mapUpdate; refine wpList_mapUpdate_own _ rfl _ _ _ 39 rfl 3 3 law Try.underlying39 _ bm n D rfl hM hn2 _ _ _ rfl rfl hkey (.lit (.int .i64 y)) [] (plainElem_int Try.underlying3 (WalkArith.wf_i64 (by omega))) ?_; intro w2 hM2 hg2
           have hB2 := hB.grown hg2 (by simpa using fun e => hbg e.symm)
           have c1' : w2.cell? ⟨g, 1, none⟩ = some (.int .i64 t) := by rw [hB2.cell]; rfl
           have c0' : w2.cell? ⟨g, 0, none⟩ = some (.map (some bm)) := by rw [hB2.cell]; rfl
           have f1' : w2.frozen? ⟨g, 1, none⟩ = false := hB2.frozen 1
           have hM3 := World.ownsMap.setCell hM2 (a := ⟨g, 1, none⟩) hbg (.int .i64 (t - 1))
           have hB3 := hB2.set_ 1 (.int .i64 (t - 1)))
        | (at_lookup; refine wpList_lookup_own_int _ rfl _ _ 39 rfl 3 3 .i64 law Try.underlying39 Try.underlying3 (zeroE _) bm (n + 1) (D.put (.int .i64 p) (.lit (.int .i64 y))) rfl hM3 _ _ rfl hkey ?_; intro c hat hwc
           obtain rfl : y = c := by
             have := D2.out.symm.trans hat
             simpa using this
           clear hat hwc))
      go_ret2
      have s1 := hg2.size
      have hl := HLL.out (by omega)
      have hM3' := hM3
      rw [← HY.out] at hM3'
      refine ⟨by rw [E1.out, E2'.out]; rfl, ⟨bm, _, fun i hi => ?_, fg, fm, ?_, hM3', mapIs_put (m := j) HD.out HJ.out (fun q => ?_)⟩, ((Keep.refl F w).grown hg2 (fun k hk => by injection hk with hk; subst hk; exact .inl fm)).setCell (p := ⟨g, 1, none⟩) (.inl fg) _⟩
      · have := fl i hi
        simp [World.setCell]
        omega
      · have e : (((less L p 1).length : Nat) : Int) = t - 1 := by have := HT2.out; omega
        rw [e]
        simpa using hB3
      · rw [HC.out q]
        rfl

/-! ### Drop -/
def dpB (L : List Int) (p : Int) : Bool := decide (0 < cnt L p ∧ L.length = cnt L p)
end Go.Proofs.Ytbldebjdgenfdaa.Fx
