/- The package atom's functions, each by its contract. -/
import Derived.Test.YtnedjmjcbmoknaaLawKit
import Derived.Test.YtnedjmjcbmoknaaAtomSpec
import Derived.Outline
import Derived.Deep.QuietTactic
import Derived.BigQuiet
import Derived.WalkLawsBesides
import Derived.WalkSpells
namespace Go.Proofs.Ytnedjmjcbmoknaa.At
open Go.RowKit K
set_option linter.unusedVariables false
set_option linter.unusedSimpArgs false

/-- A table that lies at block g, its blocks among F: it has just the atoms L, in order. -/
def Tab (w : World) (F : Nat → Prop) (g : Nat) (L : List ByteArray) : Prop :=
  ∃ bm v D, (∀ k, F k → k < w.heap.size) ∧ F g ∧ F bm ∧ (∀ r, v.ownBlock = some r → F r) ∧ Blk w g 67 #[.map (some bm), v, .int .i64 (bytesOf L : Int)] ∧
    w.ownsMap Try.prog 9 (plainElem Try.prog 3) bm L.length D ∧ MapIs D L ∧ w.ownsRow 0 9 1 v L.length (L.map Value.string) ∧
    L.Nodup ∧ (∀ s ∈ L, s.size ≤ 64) ∧ L.length ≤ 4096 ∧ bytesOf L ≤ 65536

theorem none_no (g : Nat) (bm : Nat) (w : World) (h : w.cell? ⟨g, 0, none⟩ = some (.map (some bm))) :
    Calls Try.prog 57 #[.pointer (some ⟨g, 0, none⟩)] w fun e w' => e = .returned (.bool false) ∧ w = w' := by
  have hm := fun (w : World) => run_eql_map_nil (P := Try.prog) w 64 9 3 (some bm) Try.underlying64
  go_enter Try.func57, Try.ntmps57
  go_wp2
  go_ret
  exact ⟨ret1_b rfl, rfl⟩

theorem law : Go.Maps.Keyed Try.prog 9 := Go.Maps.string_keyed Try.underlying9
theorem zeroE (w : World) : (zeroValue 3).run Try.prog w = .ok (.int .i64 0) w := by kernel_rfl
theorem info9 : (Try.prog.info? 9).map (fun i => (i.zero, i.size, i.bytes)) = some (some (.string ByteArray.empty), 1, 16) := by kernel_rfl

/-- Behind a call: the table has the atoms L, and nothing outside its own blocks has turned. -/
def Moved (w : World) (F : Nat → Prop) (g : Nat) (L : List ByteArray) (w' : World) : Prop :=
  ∃ F' : Nat → Prop, Tab w' F' g L ∧ (∀ k, F' k → F k ∨ w.heap.size ≤ k) ∧ Keep F w w'
theorem Moved.stay {w : World} {F : Nat → Prop} {g : Nat} {L : List ByteArray} (h : Tab w F g L) : Moved w F g L w := ⟨F, h, fun k hk => .inl hk, Keep.refl _ _⟩

/-- One atom more: what the store into the map, the append and the two stores into the table leave. -/
theorem moved_new {w w2 w3 : World} {F : Nat → Prop} {g bm c3 c0 : Nat} {A0 A3 : Option Addr} {L : List ByteArray} {s : ByteArray} {D : DataW Unit} (fg : F g) (fm : F bm) (fv : ∀ r, (Value.slice A0 L.length c0).ownBlock = some r → F r)
    (hbg : bm ≠ g) (hg2 : w.grownBy w2 (some bm)) (hg3 : (w2.alloc (.cells #[.string s] 9)).grownBy w3 (Value.slice A0 L.length c0).ownBlock)
    (hB3 : Blk w3 g 67 #[.map (some bm), .slice A0 L.length c0, .int .i64 (bytesOf L : Int)]) (hM3 : w3.ownsMap Try.prog 9 (plainElem Try.prog 3) bm (L.length + 1) (D.put (.string s.data.toList) (.lit (.int .i64 (L.length : Int)))))
    (hR3 : w3.ownsRow 0 9 1 (.slice A3 (L.length + 1) c3) (L.length + 1) (L.map Value.string ++ [.string s])) (hat : (Value.slice A3 (L.length + 1) c3).ownBlock = (Value.slice A0 L.length c0).ownBlock ∨ (Value.slice A3 (L.length + 1) c3).ownBlock = some (w2.alloc (.cells #[.string s] 9)).heap.size)
    (hD : MapIs D L) (hm : s ∉ L) (hbig : s.size ≤ 64) (h4 : L.length < 4096) (h5 : bytesOf L + s.size ≤ 65536) (hnd : L.Nodup) (hsz : ∀ s ∈ L, s.size ≤ 64) :
    Moved w F g (L ++ [s]) ((w3.setCell ⟨g, 1, none⟩ (.slice A3 (L.length + 1) c3)).setCell ⟨g, 2, none⟩ (.int .i64 ((bytesOf L : Int) + (s.size : Int)))) := by
  have hB4 := (hB3.set_ 1 (.slice A3 (L.length + 1) c3)).set_ 2 (.int .i64 ((bytesOf L : Int) + (s.size : Int)))
  have hne : (Value.slice A3 (L.length + 1) c3).ownBlock ≠ some g := own_blk_ne hR3 hB3 (by decide)
  have hlen : (L ++ [s]).length = L.length + 1 := by simp
  have hmt : bm < ((w3.setCell ⟨g, 1, none⟩ (.slice A3 (L.length + 1) c3)).setCell ⟨g, 2, none⟩ (.int .i64 ((bytesOf L : Int) + (s.size : Int)))).heap.size := by
    simpa [World.setCell] using hM3.lt
  have hrt : ∀ r, (Value.slice A3 (L.length + 1) c3).ownBlock = some r → r < ((w3.setCell ⟨g, 1, none⟩ (.slice A3 (L.length + 1) c3)).setCell ⟨g, 2, none⟩ (.int .i64 ((bytesOf L : Int) + (s.size : Int)))).heap.size := by
    intro r hr
    simpa [World.setCell] using (hR3.lt r hr).2
  refine ⟨fun k => (F k ∨ w.heap.size ≤ k) ∧ k < ((w3.setCell ⟨g, 1, none⟩ (.slice A3 (L.length + 1) c3)).setCell ⟨g, 2, none⟩ (.int .i64 ((bytesOf L : Int) + (s.size : Int)))).heap.size, ⟨bm, .slice A3 (L.length + 1) c3, _, fun k hk => hk.2, ⟨.inl fg, by simpa [World.setCell] using hB3.lt⟩, ⟨.inl fm, hmt⟩, ?_, ?_, ?_, mapIs_put hD hm, ?_, ?_, ?_, by omega, by rw [bytesOf_append]; omega⟩, fun k hk => hk.1, ?_⟩
  · intro r hr
    refine ⟨?_, hrt r hr⟩
    rcases hat with h | h
    · rw [h] at hr; exact .inl (fv r hr)
    · rw [h] at hr
      injection hr with hr
      right
      have := hg2.size
      simp at hr
      omega
  · rw [bytesOf_append]
    have e : ((bytesOf L + s.size : Nat) : Int) = (bytesOf L : Int) + (s.size : Int) := by omega
    rw [e]
    simpa using hB4
  · rw [hlen]
    exact (hM3.setCell (by simpa using hbg) _).setCell (by simpa using hbg) _
  · rw [hlen]
    have := ownsRow_setCell_other (ownsRow_setCell_other hR3 (a := ⟨g, 1, none⟩) hne (.slice A3 (L.length + 1) c3)) (a := ⟨g, 2, none⟩) hne (.int .i64 ((bytesOf L : Int) + (s.size : Int)))
    simpa using this
  · rw [List.nodup_append]
    refine ⟨hnd, by simp, ?_⟩
    intro a ha b hb
    simp at hb
    rintro rfl
    exact hm (hb ▸ ha)
  · intro x hx
    rcases List.mem_append.1 hx with hx | hx
    · exact hsz x hx
    · simp at hx; subst hx; exact hbig
  · exact (((((Keep.refl F w).grown hg2 (fun k hk => by injection hk with hk; subst hk; exact .inl fm)).alloc _).grown hg3 (fun k hk => .inl (fv k hk))).setCell (.inl fg) _).setCell (.inl fg) _

def InPost (w : World) (F : Nat → Prop) (g : Nat) (L : List ByteArray) (s : ByteArray) (e : Ending) (w' : World) : Prop :=
  e = .returned (.tuple #[.int .i64 (inN L s), .int .i64 (inE L s)]) ∧ Moved w F g (inL L s) w'

set_option maxRecDepth 100000 in
set_option maxHeartbeats 4000000 in
theorem intern_any (g : Nat) (L : List ByteArray) (s : ByteArray) (w : World) (F : Nat → Prop) (hT : Tab w F g L) (hs : s.size ≤ maxLen) :
    Calls Try.prog 62 #[.pointer (some ⟨g, 0, none⟩), .string s] w (InPost w F g L s) := by
  have hT0 := hT
  obtain ⟨bm, v, D, fl, fg, fm, fv, hB, hM, hD, hR, hnd, hsz, hl4, hby⟩ := hT
  obtain ⟨A0, cap, rfl, hc1, hc2⟩ := ownsRow_form hR
  have c0 : w.cell? ⟨g, 0, none⟩ = some (.map (some bm)) := by rw [hB.cell]; rfl
  have c1 : w.cell? ⟨g, 1, none⟩ = some (.slice A0 L.length cap) := by rw [hB.cell]; rfl
  have c2 : w.cell? ⟨g, 2, none⟩ = some (.int .i64 (bytesOf L : Int)) := by rw [hB.cell]; rfl
  obtain ⟨hhas, hatk⟩ := hD.2 s
  have hkey : keyOf Try.prog 9 (.string s) = some (.string s.data.toList) := Go.WideMaps.keyOf_string_mk Try.underlying9 hs
  have hs' : s.size ≤ 9223372036854775807 := by unfold maxLen at hs; exact hs
  have HT := Lib.hid hT0
  have HD := Lib.hid hD
  have HA := Lib.hid hatk
  clear hT0 hD hatk
  unfold key at hhas
  by_cases big : 64 < s.size
  · have e1 : inN L s = 0 := by unfold inN; rw [if_pos big]
    have e2 : inE L s = 2 := by unfold inE; rw [if_pos big]
    have e3 : inL L s = L := by unfold inL; rw [if_pos big]
    have E1 := Lib.hid e1; have E2 := Lib.hid e2; have E3 := Lib.hid e3
    clear e1 e2 e3 hhas
    go_enter Try.func62, Try.ntmps62
    go_wp2_with (first | (go_at_call 57; refine (none_no g bm _ c0).mono ?_; rintro e w1 ⟨rfl, rfl⟩) | (at_lookup; refine wpList_lookup_own_ok_int _ rfl _ _ 64 rfl 9 3 .i64 law Try.underlying64 Try.underlying3 (zeroE _) bm L.length D rfl hM _ _ rfl hkey ?_; intro c hat hwc))
    go_ret2
    exact ⟨ret2_ii E1.out.symm E2.out.symm, by rw [E3.out]; exact Moved.stay HT.out⟩
  · have hbig : s.size ≤ 64 := by omega
    by_cases hm : s ∈ L
    · have e1 : inN L s = (idx L s : Int) := by unfold inN; rw [if_neg big, if_pos hm]
      have e2 : inE L s = 0 := by unfold inE; rw [if_neg big, if_pos hm]
      have e3 : inL L s = L := by unfold inL; rw [if_neg big, if_pos hm]
      have hh : Maps.has D (Lit.string s.data.toList) = true := by rw [hhas]; simp [hm]
      have ha : D.atKey (key s) (.lit (.int .i64 0)) = .lit (.int .i64 (idx L s : Int)) := by rw [HA.out, if_pos hm]
      have E1 := Lib.hid e1; have E2 := Lib.hid e2; have E3 := Lib.hid e3; have HA' := Lib.hid ha
      clear e1 e2 e3 hhas ha big hm HA
      go_enter Try.func62, Try.ntmps62
      go_wp2_with (first | (go_at_call 57; refine (none_no g bm _ c0).mono ?_; rintro e w1 ⟨rfl, rfl⟩) | (at_lookup; refine wpList_lookup_own_ok_int _ rfl _ _ 64 rfl 9 3 .i64 law Try.underlying64 Try.underlying3 (zeroE _) bm L.length D rfl hM _ _ rfl hkey ?_; intro c hat hwc))
      go_ret2
      refine ⟨ret2_ii ?_ E2.out.symm, by rw [E3.out]; exact Moved.stay HT.out⟩
      rw [E1.out]
      have := HA'.out.symm.trans hat
      simpa using this.symm
    · have hh : Maps.has D (Lit.string s.data.toList) = false := by rw [hhas]; simp [hm]
      clear hhas
      by_cases hf : full L s = true
      · have e1 : inN L s = 0 := by unfold inN; rw [if_neg big, if_neg hm, if_pos hf]
        have e2 : inE L s = 8 := by unfold inE; rw [if_neg big, if_neg hm, if_pos hf]
        have e3 : inL L s = L := by unfold inL; rw [if_neg big, if_neg hm, if_pos hf]
        have hf' : 4096 ≤ L.length ∨ 65536 < bytesOf L + s.size := by simpa [full] using hf
        have E1 := Lib.hid e1; have E2 := Lib.hid e2; have E3 := Lib.hid e3
        clear e1 e2 e3 big hm HA hf
        by_cases h4 : 4096 ≤ L.length
        · clear hf'
          go_enter Try.func62, Try.ntmps62
          go_wp2_with (first
          | (go_at_call 57; refine (none_no g bm _ c0).mono ?_; rintro e w1 ⟨rfl, rfl⟩)
          | (at_lookup; refine wpList_lookup_own_ok_int _ rfl _ _ 64 rfl 9 3 .i64 law Try.underlying64 Try.underlying3 (zeroE _) bm L.length D rfl hM _ _ rfl hkey ?_; intro c hat hwc))
          go_ret2
          exact ⟨ret2_ii E1.out.symm E2.out.symm, by rw [E3.out]; exact Moved.stay HT.out⟩
        · have h5 : 65536 < bytesOf L + s.size := by omega
          clear hf'
          go_enter Try.func62, Try.ntmps62
          go_wp2_with (first
          | (go_at_call 57; refine (none_no g bm _ c0).mono ?_; rintro e w1 ⟨rfl, rfl⟩)
          | (at_lookup; refine wpList_lookup_own_ok_int _ rfl _ _ 64 rfl 9 3 .i64 law Try.underlying64 Try.underlying3 (zeroE _) bm L.length D rfl hM _ _ rfl hkey ?_; intro c hat hwc))
          go_ret2
          exact ⟨ret2_ii E1.out.symm E2.out.symm, by rw [E3.out]; exact Moved.stay HT.out⟩
      · have e1 : inN L s = (L.length : Int) := by unfold inN; rw [if_neg big, if_neg hm, if_neg hf]
        have e2 : inE L s = 0 := by unfold inE; rw [if_neg big, if_neg hm, if_neg hf]
        have e3 : inL L s = L ++ [s] := by unfold inL; rw [if_neg big, if_neg hm, if_neg hf]
        have hf' : ¬ (4096 ≤ L.length ∨ 65536 < bytesOf L + s.size) := by simpa [full] using hf
        have h4 : L.length < 4096 := by omega
        have h5 : bytesOf L + s.size ≤ 65536 := by omega
        have E1 := Lib.hid e1; have E2 := Lib.hid e2; have E3 := Lib.hid e3; have HM := Lib.hid hm
        have f1 : w.frozen? ⟨g, 1, none⟩ = false := hB.frozen 1
        have f2 : w.frozen? ⟨g, 2, none⟩ = false := hB.frozen 2
        obtain ⟨i0, hi, hz0, hz1, hz2⟩ := info_parts info9
        have hbg : bm ≠ g := map_blk_ne hM hB
        have hrg : (Value.slice A0 L.length cap).ownBlock ≠ some g := own_blk_ne hR hB (by decide)
        have hrm : (Value.slice A0 L.length cap).ownBlock ≠ some bm := map_row_ne hM hR
        clear e1 e2 e3 big hm HA hf hf'
        go_enter Try.func62, Try.ntmps62
        go_wp2_with (first
          | (go_at_call 57; refine (none_no g bm _ c0).mono ?_; rintro e w1 ⟨rfl, rfl⟩)
          | (at_lookup; refine wpList_lookup_own_ok_int _ rfl _ _ 64 rfl 9 3 .i64 law Try.underlying64 Try.underlying3 (zeroE _) bm L.length D rfl hM _ _ rfl hkey ?_; intro c hat hwc)
          | (at_mapUpdate; refine wpList_mapUpdate_own _ rfl _ _ _ 64 rfl 9 3 law Try.underlying64 _ bm L.length D rfl hM (by unfold maxLen; omega) _ _ _ rfl rfl hkey _ [] (plainElem_int Try.underlying3 (WalkArith.wf_i64 (by omega))) ?_; intro w2 hM2 hg2
             have hB2 := hB.grown hg2 (by simpa using fun e => hbg e.symm)
             have hR2 := hR.kept hg2 (Or.inr hrm)
             have c1' : w2.cell? ⟨g, 1, none⟩ = some (.slice A0 L.length cap) := by rw [hB2.cell]; rfl)
          | (at_builtin; refine wpList_append_own_at _ rfl _ _ 65 rfl 0 9 i0 _ 1 16 Try.underlying65 hi hz0 hz1 hz2 rfl (by decide) _ _ _ rfl (hR2.alloc _) ⟨w2.heap.size, 0, none⟩ 1 1 [.string s] rfl rfl (cell_one_new _ _ _) (by simp [Value.oneCell']) (by unfold maxLen; omega) (by omega) (Nat.zero_le _) ?_; intro v3 w3 hR3 hg3 _ hat3
             have hB3 := (hB2.alloc (.cells #[.string s] 9)).grown hg3 (fun e => hrg e.symm)
             have hM3 := (hM2.alloc (.cells #[.string s] 9)).kept hg3 (fun e => hrm e.symm)
             obtain ⟨A3, cap3, rfl, hc3, hc4⟩ := ownsRow_form hR3
             have f3 : w3.frozen? ⟨g, 1, none⟩ = false := hB3.frozen 1
             have f4 : w3.frozen? ⟨g, 2, none⟩ = false := hB3.frozen 2
             have d1 : w3.cell? ⟨g, 1, none⟩ = some (.slice A0 L.length cap) := by rw [hB3.cell]; rfl
             have d2 : w3.cell? ⟨g, 2, none⟩ = some (.int .i64 (bytesOf L : Int)) := by rw [hB3.cell]; rfl))
        go_ret2
        exact ⟨ret2_ii E1.out.symm E2.out.symm, by rw [E3.out]; exact moved_new fg fm fv hbg hg2 hg3 hB3 hM3 hR3 hat3 HD.out HM.out hbig h4 h5 hnd hsz⟩
end Go.Proofs.Ytnedjmjcbmoknaa.At
