/- The package atom's other functions, each by its contract: New, Find, Name, Len, All; and what they answer of a table that nobody made. -/
import Derived.Test.YtnedjmjcbmoknaaAtom
namespace Go.Proofs.Ytnedjmjcbmoknaa.At
open Go.RowKit K
set_option linter.unusedVariables false
set_option linter.unusedSimpArgs false

/-- A pointer to a table with the atoms L; what lay before is as it was. -/
def Made (w : World) (L : List ByteArray) (e : Ending) (w' : World) : Prop :=
  ∃ g, e = .returned (.pointer (some ⟨g, 0, none⟩)) ∧ Tab w' (fun k => w.heap.size ≤ k ∧ k < w'.heap.size) g L ∧ Below w.heap.size w w'

theorem new_any (w : World) : Calls Try.prog 23 #[] w (Made w []) := by
  have hmm := @run_makeMap Try.prog
  go_enter Try.func23, Try.ntmps23
  go_wp2
  go_ret
  refine ⟨w.heap.size + 1, rfl, ⟨w.heap.size, .slice none 0 0, .map [], fun k hk => hk.2, by simp, by simp; omega, by simp [Value.ownBlock], ?_, ?_, mapIs_nil, ?_, by simp, by simp, by simp, by simp [bytesOf]⟩, ?_⟩
  · have := Blk.new (w.alloc (.map #[] 0)) 67 #[.map (some w.heap.size), .slice none 0 0, .int .i64 0]
    simpa [bytesOf] using this
  · exact (World.ownsMap_made w _ _ _).alloc _
  · exact World.ownsRow_nil _ _ _ _
  · exact ((Below.refl _ _).alloc (Nat.le_refl _) _).alloc (by simp) _

theorem name_yes (g : Nat) (L : List ByteArray) (n : Nat) (s : ByteArray) (w : World) (F : Nat → Prop) (hT : Tab w F g L) (hn : L[n]? = some s) :
    Calls Try.prog 42 #[.pointer (some ⟨g, 0, none⟩), .int .i64 (n : Int)] w
      fun e w' => e = .returned (.tuple #[.string s, .int .i64 0]) ∧ w = w' := by
  obtain ⟨bm, v, D, fl, fg, fm, fv, hB, hM, hD, hR, hnd, hsz, hl4, hby⟩ := hT
  have hlt : n < L.length := (List.getElem?_eq_some_iff.1 hn).1
  obtain ⟨r, cap, rfl, k1, k2, _, _, hc⟩ := ownsRow_at hR hlt
  have c0 : w.cell? ⟨g, 0, none⟩ = some (.map (some bm)) := by rw [hB.cell]; rfl
  have c1 : w.cell? ⟨g, 1, none⟩ = some (.slice (some ⟨r, 0, none⟩) L.length cap) := by rw [hB.cell]; rfl
  have c2 : w.cell? ⟨r, n, none⟩ = some (.string s) := hc n _ (by simp [hn])
  have h0 : (0 : Int) ≤ (n : Int) := by omega
  have h1 : (n : Int) < (L.length : Int) := by omega
  have h4 : (L.length : Int) ≤ 4096 := by omega
  clear hD hc
  go_enter Try.func42, Try.ntmps42
  go_wp2_with (first | (go_at_call 57; refine (none_no g bm _ c0).mono ?_; rintro e w1 ⟨rfl, rfl⟩))
  go_ret2
  exact ⟨ret2_si rfl rfl, rfl⟩

theorem name_no (g : Nat) (L : List ByteArray) (n : Int) (w : World) (F : Nat → Prop) (hT : Tab w F g L) (hn : n < 0 ∨ (L.length : Int) ≤ n) :
    Calls Try.prog 42 #[.pointer (some ⟨g, 0, none⟩), .int .i64 n] w
      fun e w' => e = .returned (.tuple #[.string ByteArray.empty, .int .i64 5]) ∧ w = w' := by
  obtain ⟨bm, v, D, fl, fg, fm, fv, hB, hM, hD, hR, hnd, hsz, hl4, hby⟩ := hT
  obtain ⟨A0, cap, rfl, k1, k2⟩ := ownsRow_form hR
  have c0 : w.cell? ⟨g, 0, none⟩ = some (.map (some bm)) := by rw [hB.cell]; rfl
  have c1 : w.cell? ⟨g, 1, none⟩ = some (.slice A0 L.length cap) := by rw [hB.cell]; rfl
  have h4 : (L.length : Int) ≤ 4096 := by omega
  clear hD
  by_cases h : n < 0
  · clear hn
    go_enter Try.func42, Try.ntmps42
    go_wp2_with (first | (go_at_call 57; refine (none_no g bm _ c0).mono ?_; rintro e w1 ⟨rfl, rfl⟩))
    go_ret2
    exact ⟨ret2_si rfl rfl, rfl⟩
  · have h' : (L.length : Int) ≤ n := by omega
    have h0 : 0 ≤ n := by omega
    clear hn h
    go_enter Try.func42, Try.ntmps42
    go_wp2_with (first | (go_at_call 57; refine (none_no g bm _ c0).mono ?_; rintro e w1 ⟨rfl, rfl⟩))
    go_ret2
    exact ⟨ret2_si rfl rfl, rfl⟩

theorem len_any (g : Nat) (L : List ByteArray) (w : World) (F : Nat → Prop) (hT : Tab w F g L) :
    Calls Try.prog 56 #[.pointer (some ⟨g, 0, none⟩)] w fun e w' => e = .returned (.int .i64 (L.length : Int)) ∧ w = w' := by
  obtain ⟨bm, v, D, fl, fg, fm, fv, hB, hM, hD, hR, hnd, hsz, hl4, hby⟩ := hT
  obtain ⟨A0, cap, rfl, k1, k2⟩ := ownsRow_form hR
  have c0 : w.cell? ⟨g, 0, none⟩ = some (.map (some bm)) := by rw [hB.cell]; rfl
  have c1 : w.cell? ⟨g, 1, none⟩ = some (.slice A0 L.length cap) := by rw [hB.cell]; rfl
  clear hD
  go_enter Try.func56, Try.ntmps56
  go_wp2_with (first | (go_at_call 57; refine (none_no g bm _ c0).mono ?_; rintro e w1 ⟨rfl, rfl⟩))
  go_ret
  exact ⟨ret1_i rfl, rfl⟩

/-! ### A table that is nil, or that nobody made -/
/-- A pointer to no table: nil, or a block whose map is nil. -/
def NoTab (w : World) (p : Option Addr) : Prop := p = none ∨ ∃ g, p = some ⟨g, 0, none⟩ ∧ w.cell? ⟨g, 0, none⟩ = some (.map none)

theorem none_yes (p : Option Addr) (w : World) (h : NoTab w p) :
    Calls Try.prog 57 #[.pointer p] w fun e w' => e = .returned (.bool true) ∧ w = w' := by
  rcases h with rfl | ⟨g, rfl, hc⟩
  · go_enter Try.func57, Try.ntmps57
    go_wp2
    go_ret
    exact ⟨ret1_b rfl, rfl⟩
  · have hm := fun (w : World) => run_eql_map_nil (P := Try.prog) w 64 9 3 none Try.underlying64
    go_enter Try.func57, Try.ntmps57
    go_wp2
    go_ret
    exact ⟨ret1_b rfl, rfl⟩

theorem intern_none (p : Option Addr) (s : ByteArray) (w : World) (h : NoTab w p) :
    Calls Try.prog 62 #[.pointer p, .string s] w fun e w' => e = .returned (.tuple #[.int .i64 0, .int .i64 1]) ∧ w = w' := by
  have H := Lib.hid h; clear h
  go_enter Try.func62, Try.ntmps62
  go_wp2_with (first | (go_at_call 57; refine (none_yes p _ H.out).mono ?_; rintro e w1 ⟨rfl, rfl⟩))
  go_ret2
  exact ⟨ret2_ii rfl rfl, rfl⟩
theorem name_none (p : Option Addr) (n : Int) (w : World) (h : NoTab w p) :
    Calls Try.prog 42 #[.pointer p, .int .i64 n] w fun e w' => e = .returned (.tuple #[.string ByteArray.empty, .int .i64 1]) ∧ w = w' := by
  have H := Lib.hid h; clear h
  go_enter Try.func42, Try.ntmps42
  go_wp2_with (first | (go_at_call 57; refine (none_yes p _ H.out).mono ?_; rintro e w1 ⟨rfl, rfl⟩))
  go_ret2
  exact ⟨ret2_si rfl rfl, rfl⟩
theorem Tab.grown {w w' : World} {F : Nat → Prop} {g : Nat} {L : List ByteArray} {row : Option Nat} (h : Tab w F g L) (hg : w.grownBy w' row) (hn : ∀ r, row = some r → ¬ F r) : Tab w' F g L := by
  obtain ⟨bm, v, D, fl, fg, fm, fv, hB, hM, hD, hR, r⟩ := h
  refine ⟨bm, v, D, fun k hk => Nat.lt_of_lt_of_le (fl k hk) hg.size, fg, fm, fv, hB.grown hg (fun e => hn _ e.symm fg), hM.kept hg (fun e => hn _ e.symm fm), hD, hR.kept hg ?_, r⟩
  cases hv : v.ownBlock with
  | none => exact .inl rfl
  | some x => exact .inr (fun e => hn x e.symm (fv x hv))
theorem Tab.keep {w w' : World} {F G : Nat → Prop} {g : Nat} {L : List ByteArray} (h : Tab w F g L) (hk : Keep G w w') (hn : ∀ r, F r → ¬ G r) : Tab w' F g L := by
  obtain ⟨bm, v, D, fl, fg, fm, fv, hB, hM, hD, hR, r⟩ := h
  exact ⟨bm, v, D, fun k hk' => Nat.lt_of_lt_of_le (fl k hk') hk.size, fg, fm, fv, hB.keep hk (hn _ fg), ownsMap_keep hM hk (hn _ fm), hD, ownsRow_keep hR hk (fun r hr => hn _ (fv r hr)), r⟩
end Go.Proofs.Ytnedjmjcbmoknaa.At
