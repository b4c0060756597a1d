/- The helpers of layer 6's laws, each by its contract. -/
import Derived.Test.YtnomnkohhfkdnaaAtom2
namespace Go.Proofs.Ytnomnkohhfkdnaa.At
open Go.RowKit K
set_option linter.unusedVariables false
set_option linter.unusedSimpArgs false

def intB (L : List ByteArray) (s : ByteArray) (n : Int) : Bool := decide (inN L s = n ∧ inE L s = 0)

/-- Since w0 only blocks from B on have turned; among these lies a table, at g, with the atoms L. -/
def St (B : Nat) (w0 : World) (g : Nat) (L : List ByteArray) (w : World) : Prop :=
  Below B w0 w ∧ B ≤ w.heap.size ∧ ∃ F : Nat → Prop, Tab w F g L ∧ ∀ k, F k → B ≤ k
theorem St.moved {B : Nat} {w0 w w' : World} {g : Nat} {L L' : List ByteArray} {F : Nat → Prop} (hb : Below B w0 w) (hB : B ≤ w.heap.size) (hF : ∀ k, F k → B ≤ k) (h : Moved w F g L' w') : St B w0 g L' w' := by
  obtain ⟨F', hT', hF', hK⟩ := h
  refine ⟨hK.below hb hB (fun i hi hf => by have := hF i hf; omega), Nat.le_trans hB hK.size, F', hT', fun k hk => ?_⟩
  rcases hF' k hk with h | h
  · exact hF k h
  · omega
theorem St.grown {B : Nat} {w0 w w' : World} {g : Nat} {L : List ByteArray} (h : St B w0 g L w) (hb : Below w.heap.size w w') : St B w0 g L w' := by
  obtain ⟨h1, h2, F, ⟨bm, v, D, fl, fg, fm, fv, hB, hM, hD, hR, r⟩, hF⟩ := h
  refine ⟨h1.trans (hb.mono h2), Nat.le_trans h2 hb.size, F, ⟨bm, v, D, fun k hk => Nat.lt_of_lt_of_le (fl k hk) hb.size, fg, fm, fv, hB.below hb hB.lt, ownsMap_below hM hb hM.lt, hD, ownsRow_below hR hb (fun r hr => (hR.lt r hr).2), r⟩, hF⟩
theorem St.made {w w' : World} {g : Nat} {L : List ByteArray} (h : Tab w' (fun k => w.heap.size ≤ k ∧ k < w'.heap.size) g L) (hb : Below w.heap.size w w') : St w.heap.size w g L w' := ⟨hb, hb.size, _, h, fun _ hk => hk.1⟩
theorem St.made' {B : Nat} {w0 w w' : World} {g : Nat} {L : List ByteArray} (h0 : Below B w0 w) (hB : B ≤ w.heap.size) (h : Tab w' (fun k => w.heap.size ≤ k ∧ k < w'.heap.size) g L) (hb : Below w.heap.size w w') : St B w0 g L w' :=
  ⟨h0.trans (hb.mono hB), Nat.le_trans hB hb.size, _, h, fun _ hk => Nat.le_trans hB hk.1⟩

theorem intern_st (B : Nat) (w0 : World) (g : Nat) (L : List ByteArray) (s : ByteArray) (w : World) (h : St B w0 g L w) (hs : s.size ≤ maxLen) :
    Calls Try.prog 12 #[.pointer (some ⟨g, 0, none⟩), .string s] w fun e w' => e = .returned (.tuple #[.int .i64 (inN L s), .int .i64 (inE L s)]) ∧ St B w0 g (inL L s) w' := by
  obtain ⟨h1, h2, F, hT, hF⟩ := h
  exact (intern_any g L s w F hT hs).mono fun e w' ⟨he, hm⟩ => ⟨he, St.moved (L := L) h1 h2 hF hm⟩

set_option maxHeartbeats 4000000 in
theorem interned_any (B : Nat) (w0 : World) (g : Nat) (L : List ByteArray) (s : ByteArray) (n : Int) (w : World) (h : St B w0 g L w) (hs : s.size ≤ maxLen) :
    Calls Try.prog 9 #[.pointer (some ⟨g, 0, none⟩), .string s, .int .i64 n] w fun e w' => e = .returned (.bool (intB L s n)) ∧ St B w0 g (inL L s) w' := by
  have H := Lib.hid (intern_st B w0 g L s w h hs)
  clear h
  by_cases a : inN L s = n
  · by_cases b : inE L s = 0
    · have e1 : intB L s n = true := by simp [intB, a, b]
      rw [e1]; clear e1
      subst a
      go_enter Try.func9, Try.ntmps9
      go_wp2_with (go_at_call 12; refine H.out.mono ?_; rintro e w1 ⟨rfl, hS⟩)
      go_ret
      exact ⟨ret1_b rfl, hS⟩
    · have e1 : intB L s n = false := by simp [intB, b]
      rw [e1]; clear e1
      subst a
      have b' : (inE L s == 0) = false := by simpa using b
      clear b
      go_enter Try.func9, Try.ntmps9
      go_wp2_with (go_at_call 12; refine H.out.mono ?_; rintro e w1 ⟨rfl, hS⟩)
      go_ret
      exact ⟨ret1_b rfl, hS⟩
  · have e1 : intB L s n = false := by simp [intB, a]
    rw [e1]; clear e1
    have a' : (inN L s == n) = false := by simpa using a
    clear a
    go_enter Try.func9, Try.ntmps9
    go_wp2_with (go_at_call 12; refine H.out.mono ?_; rintro e w1 ⟨rfl, hS⟩)
    go_ret
    exact ⟨ret1_b rfl, hS⟩

theorem len_st (B : Nat) (w0 : World) (g : Nat) (L : List ByteArray) (w : World) (h : St B w0 g L w) :
    Calls Try.prog 16 #[.pointer (some ⟨g, 0, none⟩)] w fun e w' => e = .returned (.int .i64 (L.length : Int)) ∧ w = w' := by
  obtain ⟨h1, h2, F, hT, hF⟩ := h
  exact len_any g L w F hT

def tA : ByteArray := ⟨#[97]⟩
def tB : ByteArray := ⟨#[98]⟩
theorem i1 : intB [] tA 0 = true ∧ inL [] tA = [tA] := by decide +kernel
theorem i2 : intB [tA] tB 1 = true ∧ inL [tA] tB = [tA, tB] := by decide +kernel
theorem i3 : intB [tA, tB] tA 0 = true ∧ inL [tA, tB] tA = [tA, tB] := by decide +kernel

theorem interned_yes {B : Nat} {w0 : World} {g : Nat} {L L' : List ByteArray} {s : ByteArray} {n : Int} {w : World} (h : St B w0 g L w) (hs : s.size ≤ maxLen) (hi : intB L s n = true ∧ inL L s = L') :
    Calls Try.prog 9 #[.pointer (some ⟨g, 0, none⟩), .string s, .int .i64 n] w fun e w' => e = .returned (.bool true) ∧ St B w0 g L' w' :=
  (interned_any B w0 g L s n w h hs).mono fun e w' ⟨he, hS⟩ => ⟨by rw [he, hi.1], hi.2 ▸ hS⟩

set_option maxRecDepth 100000 in
set_option maxHeartbeats 4000000 in
theorem awake_any (w : World) : Calls Try.prog 13 #[] w fun e w' => e = .returned (.bool true) ∧ Below w.heap.size w w' := by
  go_enter Try.func13, Try.ntmps13
  go_wp2_with (go_at_call 8; refine (new_any _).mono ?_; rintro e w1 ⟨g, rfl, hT, hb⟩; have hS := St.made hT hb; clear hT hb)
  refine (interned_yes hS (by decide) i1).mono ?_
  rintro e w2 ⟨rfl, hS2⟩
  clear hS
  go_wp2_with fail
  refine (interned_yes hS2 (by decide) i2).mono ?_
  rintro e w3 ⟨rfl, hS3⟩
  clear hS2
  go_wp2_with fail
  refine (interned_yes hS3 (by decide) i3).mono ?_
  rintro e w4 ⟨rfl, hS4⟩
  clear hS3
  go_wp2_with fail
  refine (len_st _ _ _ _ _ hS4).mono ?_
  rintro e w5 ⟨rfl, rfl⟩
  go_wp2_with fail
  go_ret
  exact ⟨ret1_b rfl, hS4.1⟩

end Go.Proofs.Ytnomnkohhfkdnaa.At
