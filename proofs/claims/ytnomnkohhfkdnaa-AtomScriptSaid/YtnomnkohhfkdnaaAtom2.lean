/- The package atom's other functions, each by its contract: New, Find, Name, Len, All; and what they answer of a table that nobody made. -/
import Derived.Test.YtnomnkohhfkdnaaAtom
import Derived.Test.YtnomnkohhfkdnaaCloneStr
namespace Go.Proofs.Ytnomnkohhfkdnaa.At
open Go.RowKit K
set_option linter.unusedVariables false
set_option linter.unusedSimpArgs false

/-- A pointer to a table with the atoms L; what lay before is as it was. -/
def Made (w : World) (L : List ByteArray) (e : Ending) (w' : World) : Prop :=
  ∃ g, e = .returned (.pointer (some ⟨g, 0, none⟩)) ∧ Tab w' (fun k => w.heap.size ≤ k ∧ k < w'.heap.size) g L ∧ Below w.heap.size w w'

theorem new_any (w : World) : Calls Try.prog 8 #[] w (Made w []) := by
  have hmm := @run_makeMap Try.prog
  go_enter Try.func8, Try.ntmps8
  go_wp2
  go_ret
  refine ⟨w.heap.size + 1, rfl, ⟨w.heap.size, .slice none 0 0, .map [], fun k hk => hk.2, by simp, by simp; omega, by simp [Value.ownBlock], ?_, ?_, mapIs_nil, ?_, by simp, by simp, by simp, by simp [bytesOf]⟩, ?_⟩
  · have := Blk.new (w.alloc (.map #[] 0)) 48 #[.map (some w.heap.size), .slice none 0 0, .int .i64 0]
    simpa [bytesOf] using this
  · exact (World.ownsMap_made w _ _ _).alloc _
  · exact World.ownsRow_nil _ _ _ _
  · exact ((Below.refl _ _).alloc (Nat.le_refl _) _).alloc (by simp) _

set_option maxRecDepth 100000 in
set_option maxHeartbeats 4000000 in
theorem find_any (g : Nat) (L : List ByteArray) (s : ByteArray) (w : World) (F : Nat → Prop) (hT : Tab w F g L) (hs : s.size ≤ maxLen) :
    Calls Try.prog 11 #[.pointer (some ⟨g, 0, none⟩), .string s] w
      fun e w' => e = .returned (.tuple #[.int .i64 (fdN L s), .bool (fdB L s)]) ∧ w = w' := by
  obtain ⟨bm, v, D, fl, fg, fm, fv, hB, hM, hD, hR, hnd, hsz, hl4, hby⟩ := hT
  have c0 : w.cell? ⟨g, 0, none⟩ = some (.map (some bm)) := by rw [hB.cell]; rfl
  obtain ⟨hhas, hatk⟩ := hD.2 s
  have hkey : keyOf Try.prog 9 (.string s) = some (.string s.data.toList) := Go.WideMaps.keyOf_string_mk Try.underlying9 hs
  have HA := Lib.hid hatk
  have HH := Lib.hid (show Maps.has D (key s) = fdB L s from hhas)
  clear hD hatk hhas
  go_enter Try.func11, Try.ntmps11
  go_wp2_with (first | (go_at_call 20; refine (none_no g bm _ c0).mono ?_; rintro e w1 ⟨rfl, rfl⟩) | (at_lookup; refine wpList_lookup_own_ok_int _ rfl _ _ 46 rfl 9 3 .i64 law Try.underlying46 Try.underlying3 (zeroE _) bm L.length D rfl hM _ _ rfl hkey ?_; intro c hat hwc))
  go_ret2
  refine ⟨ret2_ib ?_ HH.out, rfl⟩
  have := HA.out.symm.trans hat
  unfold fdN
  simpa using this.symm

theorem name_yes (g : Nat) (L : List ByteArray) (n : Nat) (s : ByteArray) (w : World) (F : Nat → Prop) (hT : Tab w F g L) (hn : L[n]? = some s) :
    Calls Try.prog 10 #[.pointer (some ⟨g, 0, none⟩), .int .i64 (n : Int)] w
      fun e w' => e = .returned (.tuple #[.string s, .int .i64 0]) ∧ w = w' := by
  obtain ⟨bm, v, D, fl, fg, fm, fv, hB, hM, hD, hR, hnd, hsz, hl4, hby⟩ := hT
  have hlt : n < L.length := (List.getElem?_eq_some_iff.1 hn).1
  obtain ⟨r, cap, rfl, k1, k2, _, _, hc⟩ := ownsRow_at hR hlt
  have c0 : w.cell? ⟨g, 0, none⟩ = some (.map (some bm)) := by rw [hB.cell]; rfl
  have c1 : w.cell? ⟨g, 1, none⟩ = some (.slice (some ⟨r, 0, none⟩) L.length cap) := by rw [hB.cell]; rfl
  have c2 : w.cell? ⟨r, n, none⟩ = some (.string s) := hc n _ (by simp [hn])
  have h0 : (0 : Int) ≤ (n : Int) := by omega
  have h1 : (n : Int) < (L.length : Int) := by omega
  have h4 : (L.length : Int) ≤ 4096 := by omega
  clear hD hc
  go_enter Try.func10, Try.ntmps10
  go_wp2_with (first | (go_at_call 20; refine (none_no g bm _ c0).mono ?_; rintro e w1 ⟨rfl, rfl⟩))
  go_ret2
  exact ⟨ret2_si rfl rfl, rfl⟩

theorem name_no (g : Nat) (L : List ByteArray) (n : Int) (w : World) (F : Nat → Prop) (hT : Tab w F g L) (hn : n < 0 ∨ (L.length : Int) ≤ n) :
    Calls Try.prog 10 #[.pointer (some ⟨g, 0, none⟩), .int .i64 n] w
      fun e w' => e = .returned (.tuple #[.string ByteArray.empty, .int .i64 5]) ∧ w = w' := by
  obtain ⟨bm, v, D, fl, fg, fm, fv, hB, hM, hD, hR, hnd, hsz, hl4, hby⟩ := hT
  obtain ⟨A0, cap, rfl, k1, k2⟩ := ownsRow_form hR
  have c0 : w.cell? ⟨g, 0, none⟩ = some (.map (some bm)) := by rw [hB.cell]; rfl
  have c1 : w.cell? ⟨g, 1, none⟩ = some (.slice A0 L.length cap) := by rw [hB.cell]; rfl
  have h4 : (L.length : Int) ≤ 4096 := by omega
  clear hD
  by_cases h : n < 0
  · clear hn
    go_enter Try.func10, Try.ntmps10
    go_wp2_with (first | (go_at_call 20; refine (none_no g bm _ c0).mono ?_; rintro e w1 ⟨rfl, rfl⟩))
    go_ret2
    exact ⟨ret2_si rfl rfl, rfl⟩
  · have h' : (L.length : Int) ≤ n := by omega
    have h0 : 0 ≤ n := by omega
    clear hn h
    go_enter Try.func10, Try.ntmps10
    go_wp2_with (first | (go_at_call 20; refine (none_no g bm _ c0).mono ?_; rintro e w1 ⟨rfl, rfl⟩))
    go_ret2
    exact ⟨ret2_si rfl rfl, rfl⟩

theorem len_any (g : Nat) (L : List ByteArray) (w : World) (F : Nat → Prop) (hT : Tab w F g L) :
    Calls Try.prog 16 #[.pointer (some ⟨g, 0, none⟩)] w fun e w' => e = .returned (.int .i64 (L.length : Int)) ∧ w = w' := by
  obtain ⟨bm, v, D, fl, fg, fm, fv, hB, hM, hD, hR, hnd, hsz, hl4, hby⟩ := hT
  obtain ⟨A0, cap, rfl, k1, k2⟩ := ownsRow_form hR
  have c0 : w.cell? ⟨g, 0, none⟩ = some (.map (some bm)) := by rw [hB.cell]; rfl
  have c1 : w.cell? ⟨g, 1, none⟩ = some (.slice A0 L.length cap) := by rw [hB.cell]; rfl
  clear hD
  go_enter Try.func16, Try.ntmps16
  go_wp2_with (first | (go_at_call 20; refine (none_no g bm _ c0).mono ?_; rintro e w1 ⟨rfl, rfl⟩))
  go_ret
  exact ⟨ret1_i rfl, rfl⟩

theorem all_any (g : Nat) (L : List ByteArray) (w : World) (F : Nat → Prop) (hT : Tab w F g L) :
    Calls Try.prog 19 #[.pointer (some ⟨g, 0, none⟩)] w (CloneStrPost w L.length (L.map Value.string)) := by
  obtain ⟨bm, v, D, fl, fg, fm, fv, hB, hM, hD, hR, hnd, hsz, hl4, hby⟩ := hT
  have hRd : ∃ A0 cap, v = .slice A0 L.length cap ∧ (A0 = none → cap = 0) := by
    rcases hR.2 with ⟨rfl, h⟩ | ⟨r, cap, cur, rfl, _⟩
    · exact ⟨none, 0, by rw [h], fun _ => rfl⟩
    · exact ⟨_, cap, rfl, fun h => by cases h⟩
  obtain ⟨A0, cap, rfl, hA⟩ := hRd
  have hrd := Reads.of_own hR
  have c0 : w.cell? ⟨g, 0, none⟩ = some (.map (some bm)) := by rw [hB.cell]; rfl
  have c1 : w.cell? ⟨g, 1, none⟩ = some (.slice A0 L.length cap) := by rw [hB.cell]; rfl
  have HC := Lib.hid (clone_str A0 L.length cap w.heap.size (L.map Value.string) w hrd (Nat.le_refl _) (by intro u hu; simp at hu; obtain ⟨a, _, rfl⟩ := hu; rfl) (by omega) hA)
  clear hD hA hrd
  go_enter Try.func19, Try.ntmps19
  go_wp2_with (first | (go_at_call 20; refine (none_no g bm _ c0).mono ?_; rintro e w1 ⟨rfl, rfl⟩) | (go_at_call 24; refine HC.out.mono ?_; rintro e w2 ⟨v2, rfl, hR2, hb2⟩))
  go_ret
  exact ⟨_, rfl, hR2, hb2⟩

/-! ### A table that is nil, or that nobody made -/
/-- A pointer to no table: nil, or a block whose map is nil. -/
def NoTab (w : World) (p : Option Addr) : Prop := p = none ∨ ∃ g, p = some ⟨g, 0, none⟩ ∧ w.cell? ⟨g, 0, none⟩ = some (.map none)

theorem none_yes (p : Option Addr) (w : World) (h : NoTab w p) :
    Calls Try.prog 20 #[.pointer p] w fun e w' => e = .returned (.bool true) ∧ w = w' := by
  rcases h with rfl | ⟨g, rfl, hc⟩
  · go_enter Try.func20, Try.ntmps20
    go_wp2
    go_ret
    exact ⟨ret1_b rfl, rfl⟩
  · have hm := fun (w : World) => run_eql_map_nil (P := Try.prog) w 46 9 3 none Try.underlying46
    go_enter Try.func20, Try.ntmps20
    go_wp2
    go_ret
    exact ⟨ret1_b rfl, rfl⟩

theorem intern_none (p : Option Addr) (s : ByteArray) (w : World) (h : NoTab w p) :
    Calls Try.prog 12 #[.pointer p, .string s] w fun e w' => e = .returned (.tuple #[.int .i64 0, .int .i64 1]) ∧ w = w' := by
  have H := Lib.hid h; clear h
  go_enter Try.func12, Try.ntmps12
  go_wp2_with (first | (go_at_call 20; refine (none_yes p _ H.out).mono ?_; rintro e w1 ⟨rfl, rfl⟩))
  go_ret2
  exact ⟨ret2_ii rfl rfl, rfl⟩
theorem find_none (p : Option Addr) (s : ByteArray) (w : World) (h : NoTab w p) :
    Calls Try.prog 11 #[.pointer p, .string s] w fun e w' => e = .returned (.tuple #[.int .i64 0, .bool false]) ∧ w = w' := by
  have H := Lib.hid h; clear h
  go_enter Try.func11, Try.ntmps11
  go_wp2_with (first | (go_at_call 20; refine (none_yes p _ H.out).mono ?_; rintro e w1 ⟨rfl, rfl⟩))
  go_ret2
  exact ⟨ret2_ib rfl rfl, rfl⟩
theorem name_none (p : Option Addr) (n : Int) (w : World) (h : NoTab w p) :
    Calls Try.prog 10 #[.pointer p, .int .i64 n] w fun e w' => e = .returned (.tuple #[.string ByteArray.empty, .int .i64 1]) ∧ w = w' := by
  have H := Lib.hid h; clear h
  go_enter Try.func10, Try.ntmps10
  go_wp2_with (first | (go_at_call 20; refine (none_yes p _ H.out).mono ?_; rintro e w1 ⟨rfl, rfl⟩))
  go_ret2
  exact ⟨ret2_si rfl rfl, rfl⟩
theorem len_none (p : Option Addr) (w : World) (h : NoTab w p) :
    Calls Try.prog 16 #[.pointer p] w fun e w' => e = .returned (.int .i64 0) ∧ w = w' := by
  have H := Lib.hid h; clear h
  go_enter Try.func16, Try.ntmps16
  go_wp2_with (first | (go_at_call 20; refine (none_yes p _ H.out).mono ?_; rintro e w1 ⟨rfl, rfl⟩))
  go_ret
  exact ⟨ret1_i rfl, rfl⟩
theorem all_none (p : Option Addr) (w : World) (h : NoTab w p) :
    Calls Try.prog 19 #[.pointer p] w fun e w' => e = .returned (.slice none 0 0) ∧ w = w' := by
  have H := Lib.hid h; clear h
  go_enter Try.func19, Try.ntmps19
  go_wp2_with (first | (go_at_call 20; refine (none_yes p _ H.out).mono ?_; rintro e w1 ⟨rfl, rfl⟩))
  go_ret
  exact ⟨rfl, rfl⟩
end Go.Proofs.Ytnomnkohhfkdnaa.At
