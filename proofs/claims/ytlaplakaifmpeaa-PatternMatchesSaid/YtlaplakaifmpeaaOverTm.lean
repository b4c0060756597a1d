/- OverTerm of tenurekit, by a contract: it returns, and writes only rows that it may write. -/
import Derived.Test.YtlaplakaifmpeaaWk
namespace Go.Proofs.Ytlaplakaifmpeaa.K
open Go.RowKit
set_option linter.unusedVariables false
set_option linter.unusedSimpArgs false

/-- What is there behind it: other blocks as they were, and all that may be written over may be still. -/
def Ovr (F : Nat → Prop) (w w' : World) : Prop := Keep F w w' ∧ ∀ m u, Wk w F m u → Wk w' F m u
theorem Ovr.refl (F : Nat → Prop) (w : World) : Ovr F w w := ⟨Keep.refl _ _, fun _ _ h => h⟩
theorem Ovr.trans {F : Nat → Prop} {w w1 w2 : World} (h : Ovr F w w1) (h' : Ovr F w1 w2) : Ovr F w w2 := ⟨h.1.trans h'.1 (fun _ _ h => h), fun m u hu => h'.2 m u (h.2 m u hu)⟩
theorem Ovr.put {F : Nat → Prop} {w w1 : World} (h : Ovr F w w1) {b j : Nat} (hb : F b) (k0 m0 : Int) (s0 : ByteArray) : Ovr F w (put4at w1 b (j * 4) (.int .i64 k0) (.int .i64 m0) (.string s0) (.slice none 0 0)) :=
  ⟨((((h.1.setCell (p := ⟨b, j * 4, none⟩) (.inl hb) _).setCell (p := ⟨b, j * 4 + 1, none⟩) (.inl hb) _).setCell (p := ⟨b, j * 4 + 2, none⟩) (.inl hb) _).setCell (p := ⟨b, j * 4 + 3, none⟩) (.inl hb) _), fun m u hu => Wk.put (h.2 m u hu)⟩
def OverC (n : Nat) : Prop := ∀ (v : Value) (w : World) (F : Nat → Prop), Wk w F n v → (∀ b, F b → b < w.heap.size) → Calls Try.prog 17 #[v] w fun e w' => e = .returned (.tuple #[]) ∧ Ovr F w w'
/-- The place at i, what lies in it written out. -/
theorem Wk.spot {w : World} {F : Nat → Prop} {n len c i : Nat} {k m : Int} {s : ByteArray} {A : Option Addr} (h : Wk w F (n + 1) (.agg #[.int .i64 k, .int .i64 m, .string s, .slice A len c])) (hi : i < len) :
    ∃ (b : Nat) (k' m' : Int) (s' : ByteArray) (A' : Option Addr) (len' c' : Nat), A = some ⟨b, 0, none⟩ ∧ F b ∧ (w.cell? ⟨b, i * 4, none⟩ = some (.int .i64 k') ∧ w.cell? ⟨b, i * 4 + 1, none⟩ = some (.int .i64 m') ∧ w.cell? ⟨b, i * 4 + 2, none⟩ = some (.string s') ∧ w.cell? ⟨b, i * 4 + 3, none⟩ = some (.slice A' len' c')) ∧
      (w.frozen? ⟨b, i * 4, none⟩ = false ∧ w.frozen? ⟨b, i * 4 + 1, none⟩ = false ∧ w.frozen? ⟨b, i * 4 + 2, none⟩ = false ∧ w.frozen? ⟨b, i * 4 + 3, none⟩ = false) ∧ Wk w F n (.agg #[.int .i64 k', .int .i64 m', .string s', .slice A' len' c']) := by
  obtain ⟨k1, m1, s1, A1, len1, c1, e, hl, h⟩ := h
  simp only [Value.agg.injEq, Array.mk.injEq, List.cons.injEq, Value.int.injEq, true_and, Value.string.injEq, Value.slice.injEq, and_true] at e
  obtain ⟨rfl, rfl, rfl, rfl, rfl, rfl⟩ := e
  obtain ⟨b, x0, x1, x2, x3, hA, hb, hc, hf, hw⟩ := h i hi
  cases n with
  | zero => exact hw.elim
  | succ n =>
    have hw0 := hw
    obtain ⟨k2, m2, s2, A2, len2, c2, e, _, _⟩ := hw
    simp only [Value.agg.injEq, Array.mk.injEq, List.cons.injEq, and_true] at e
    obtain ⟨rfl, rfl, rfl, rfl⟩ := e
    exact ⟨b, k2, m2, s2, A2, len2, c2, hA, hb, hc, hf, hw0⟩
set_option maxRecDepth 100000 in
set_option maxHeartbeats 4000000 in
theorem overT_any (n : Nat) : OverC n := by
  induction n with
  | zero => exact fun v w F h => h.elim
  | succ n ih =>
    intro v w F h hF
    have h0 := h
    obtain ⟨k, m, s, A, len, c, rfl, hlen, _⟩ := h
    obtain ⟨W1, hW1⟩ : ∃ W1, w.alloc (.cells #[.int .i64 k, .int .i64 m, .string s, .slice A len c] 24) = W1 := ⟨_, rfl⟩
    have hbb : Below w.heap.size w W1 := by rw [← hW1]; exact (Below.refl _ _).alloc (Nat.le_refl _) _
    have hg : Blk W1 w.heap.size 24 #[.int .i64 k, .int .i64 m, .string s, .slice A len c] := by rw [← hW1]; exact Blk.new _ _ _
    have h3 : W1.cell? ⟨w.heap.size, 3, none⟩ = some (.slice A len c) := by rw [hg.cell]; rfl
    have hnF : ¬ F w.heap.size := fun h => by have := hF _ h; omega
    have H3 := Lib.hid (show ∀ wx, Keep F W1 wx → wx.cell? ⟨w.heap.size, 3, none⟩ = some (.slice A len c) from fun wx hk => (hk.cell (p := ⟨w.heap.size, 3, none⟩) hg.lt hnF).trans h3)
    have HV := Lib.hid (h0.later hbb)
    have HI := Lib.hid ih
    have HFF := Lib.hid (show ∀ b, F b → b < W1.heap.size from fun b hb => Nat.lt_of_lt_of_le (hF b hb) hbb.size)
    have HEND := Lib.hid (show ∀ wx, Ovr F W1 wx → Ovr F w wx from fun wx hx => ⟨(Keep.new (F := F) hbb).trans hx.1 (fun _ _ h => h), fun m u hu => hx.2 m u (hu.later hbb)⟩)
    have HW := Lib.hid hW1
    have hl0 : (0 : Int) ≤ (len : Int) := by omega
    clear h0 ih hF hbb hg h3 hnF hW1
    go_enter Try.func17, Try.ntmps17
    go_wp2_with fail
    rw [HW.out]
    go_loopw [2] (fun x wr => ∃ i : Nat, i ≤ len ∧ x = .int .i64 (i : Int) ∧ Ovr F W1 wr) (fun x _ => len - (intOf x).toNat)
    case atStart => exact ⟨0, Nat.zero_le _, rfl, Ovr.refl _ _⟩
    case round =>
      obtain ⟨i, hi, rfl, ho⟩ := hrel
      have HO := Lib.hid ho
      have b3 := H3.out _ ho.1
      clear ho
      by_cases hlt : i < len
      · obtain ⟨b, k', m', s', A', len', c', rfl, hFb, ⟨d0, d1, d2, d3⟩, ⟨f0, f1, f2, f3⟩, hw⟩ := (HO.out.2 _ _ HV.out).spot hlt
        have HC := Lib.hid (HI.out _ wr F hw (fun b hb => Nat.lt_of_lt_of_le (HFF.out b hb) HO.out.1.size))
        have hi0 : (0 : Int) ≤ (i : Int) := by omega
        have hil : (i : Int) < (len : Int) := by omega
        have HFb := Lib.hid hFb
        clear hw f0 f1 f2 f3 hFb
        go_wp2_with fail
        refine HC.out.mono ?_
        rintro e w2 ⟨rfl, ho2⟩
        have HO2 := Lib.hid (HO.out.trans ho2)
        have e3 := H3.out _ HO2.out.1
        obtain ⟨b', k2, m2, s2, A2, len2, c2, hbb', _, ⟨g0, g1, g2, g3⟩, ⟨f0, f1, f2, f3⟩, _⟩ := (HO2.out.2 _ _ HV.out).spot hlt
        injection hbb' with hbb'
        injection hbb' with hbb'
        subst hbb'
        clear ho2 b3 d0 d1 d2 d3
        go_wp2_with fail
        go_roundw
        case rel => exact ⟨i + 1, by omega, by go_num, HO2.out.put HFb.out _ _ _⟩
        case measure => simp [intOf]; omega
      · obtain rfl : i = len := by omega
        go_wp2_with fail
        go_end0
        exact ⟨rfl, HEND.out _ HO.out⟩
end Go.Proofs.Ytlaplakaifmpeaa.K
