/- Terms that may be have the same bytes just if they are the same: plain. -/
import Derived.Test.YtbpdaoedmjpdpaaHashSpec
import Derived.Test.YtbpdaoedmjpdpaaChkSpec
namespace Go.Proofs.Ytbpdaoedmjpdpaa.Hs
open K
set_option linter.unusedVariables false
set_option linter.unusedSimpArgs false

theorem b8_inj {x y : Int} (h : b8 x = b8 y) : x % 256 = y % 256 := by
  have := congrArg Subtype.val h
  exact this
theorem le8_eq (n : Int) : le8 n = [b8 (n % 18446744073709551616 / 1), b8 (n % 18446744073709551616 / 256), b8 (n % 18446744073709551616 / 65536), b8 (n % 18446744073709551616 / 16777216), b8 (n % 18446744073709551616 / 4294967296), b8 (n % 18446744073709551616 / 1099511627776), b8 (n % 18446744073709551616 / 281474976710656), b8 (n % 18446744073709551616 / 72057594037927936)] := rfl
theorem dd2 (x : Int) : x / 256 / 256 = x / 65536 := by omega
theorem dd3 (x : Int) : x / 65536 / 256 = x / 16777216 := by omega
theorem dd4 (x : Int) : x / 16777216 / 256 = x / 4294967296 := by omega
theorem dd5 (x : Int) : x / 4294967296 / 256 = x / 1099511627776 := by omega
theorem dd6 (x : Int) : x / 1099511627776 / 256 = x / 281474976710656 := by omega
theorem dd7 (x : Int) : x / 281474976710656 / 256 = x / 72057594037927936 := by omega
theorem up8 {X Y : Int} (h : X / 256 = Y / 256) (hm : X % 256 = Y % 256) : X = Y := by omega
theorem sm8 {X Y : Int} (h : 0 ≤ X ∧ X < 256) (h' : 0 ≤ Y ∧ Y < 256) (hm : X % 256 = Y % 256) : X = Y := by omega
theorem top8 {x : Int} (h : 0 ≤ x ∧ x < 18446744073709551616) : 0 ≤ x / 72057594037927936 ∧ x / 72057594037927936 < 256 := by omega
theorem m64 (n : Int) : 0 ≤ n % 18446744073709551616 ∧ n % 18446744073709551616 < 18446744073709551616 := by omega
theorem m64_inj {n m : Int} (hn : -9223372036854775808 ≤ n ∧ n ≤ 9223372036854775807) (hm : -9223372036854775808 ≤ m ∧ m ≤ 9223372036854775807) (e : n % 18446744073709551616 = m % 18446744073709551616) : n = m := by omega
theorem le8_inj {n m : Int} (hn : -9223372036854775808 ≤ n ∧ n ≤ 9223372036854775807) (hm : -9223372036854775808 ≤ m ∧ m ≤ 9223372036854775807) (h : le8 n = le8 m) : n = m := by
  rw [le8_eq, le8_eq] at h
  have x0 := m64 n
  have y0 := m64 m
  refine m64_inj hn hm ?_
  clear hn hm
  obtain ⟨x, hx⟩ : ∃ x, n % 18446744073709551616 = x := ⟨_, rfl⟩
  obtain ⟨y, hy⟩ : ∃ y, m % 18446744073709551616 = y := ⟨_, rfl⟩
  rw [hx, hy] at h ⊢
  rw [hx] at x0
  rw [hy] at y0
  clear hx hy
  simp only [List.cons.injEq, and_true] at h
  obtain ⟨h0, h1, h2, h3, h4, h5, h6, h7⟩ := h
  have h0 := b8_inj h0; have h1 := b8_inj h1; have h2 := b8_inj h2; have h3 := b8_inj h3
  have h4 := b8_inj h4; have h5 := b8_inj h5; have h6 := b8_inj h6; have h7 := b8_inj h7
  have e7 := sm8 (top8 x0) (top8 y0) h7
  have e6 := up8 (X := x / 281474976710656) (Y := y / 281474976710656) (by rw [dd7, dd7]; exact e7) h6
  have e5 := up8 (X := x / 1099511627776) (Y := y / 1099511627776) (by rw [dd6, dd6]; exact e6) h5
  have e4 := up8 (X := x / 4294967296) (Y := y / 4294967296) (by rw [dd5, dd5]; exact e5) h4
  have e3 := up8 (X := x / 16777216) (Y := y / 16777216) (by rw [dd4, dd4]; exact e4) h3
  have e2 := up8 (X := x / 65536) (Y := y / 65536) (by rw [dd3, dd3]; exact e3) h2
  have e1 := up8 (X := x / 256) (Y := y / 256) (by rw [dd2, dd2]; exact e2) h1
  rw [Int.ediv_one, Int.ediv_one] at h0
  exact up8 e1 h0
theorem strB_inj {s u : ByteArray} (h : strB s = strB u) : s = u := by
  unfold strB at h
  have e : ∀ c d : UInt8, b8 (c.toNat : Int) = b8 (d.toNat : Int) → c = d := fun c d hcd => by
    have h1 := b8_inj hcd
    have h2 := c.toNat_lt
    have h3 := d.toNat_lt
    exact UInt8.toNat_inj.1 (by omega)
  have h2 : s.data.toList = u.data.toList := List.map_inj_right e |>.1 h
  have h3 : s.data = u.data := Array.toList_inj.1 h2
  cases s; cases u; simp_all
theorem strB_len (s : ByteArray) : (strB s).length = s.size := by simp [strB]
theorem app_inj {α : Type} {a b c d : List α} (h : a ++ c = b ++ d) (hl : a.length = b.length) : a = b ∧ c = d := List.append_inj h hl
/-- All parts may be. -/
def Snd (t : Tm) : Prop := sndL (subs t) = true
theorem Snd.top {t : Tm} (h : Snd t) : soundB t = true := by unfold Snd at h; rw [sndL_subs] at h; simp at h; exact h.1
theorem Snd.part {t u : Tm} (h : Snd t) (hu : u ∈ t.l) : Snd u := by
  unfold Snd at h; rw [sndL_subs] at h; simp at h
  exact sndL_mem h.2 hu
theorem sound_kinds {k n : Int} {q m : Nat} (h : soundK k n q m = true) : 1 ≤ k ∧ k ≤ 9 := by
  unfold soundK at h
  repeat' split at h
  all_goals first | omega | (cases h)
/-- The code: whatever follows. -/
theorem bytes_inj : ∀ (a b : Tm) (r r' : List B8), Snd a → Snd b → bytesT a ++ r = bytesT b ++ r' → a = b ∧ r = r' := by
  refine Tm.ind fun a ih b r r' ha hb h => ?_
  obtain ⟨k, n, s, l⟩ := a
  obtain ⟨k', n', s', l'⟩ := b
  have sa := ha.top
  have sb := hb.top
  unfold soundB at sa sb
  simp only [Tm.k_mk, Tm.n_mk, Tm.s_mk, Tm.l_mk] at sa sb ih
  -- the parts of two lists as long as each other
  have hparts : ∀ (xs ys : List Tm) (r r' : List B8), (∀ u ∈ xs, u ∈ l) → (∀ u ∈ ys, u ∈ l') → xs.length = ys.length → bytesL xs ++ r = bytesL ys ++ r' → xs = ys ∧ r = r' := by
    intro xs
    induction xs with
    | nil =>
      intro ys r r' _ _ hl h
      have : ys = [] := List.eq_nil_of_length_eq_zero (by simpa using hl.symm)
      subst this
      exact ⟨rfl, by simpa [bytesL_nil] using h⟩
    | cons x xs ihx =>
      intro ys r r' h1 h2 hl h
      cases ys with
      | nil => simp at hl
      | cons y ys =>
        rw [bytesL_cons, bytesL_cons, List.append_assoc, List.append_assoc] at h
        obtain ⟨rfl, h3⟩ := ih x (h1 x (List.mem_cons_self ..)) y _ _ (ha.part (h1 x (List.mem_cons_self ..))) (hb.part (h2 y (List.mem_cons_self ..))) h
        obtain ⟨rfl, h4⟩ := ihx ys r r' (fun u hu => h1 u (List.mem_cons_of_mem _ hu)) (fun u hu => h2 u (List.mem_cons_of_mem _ hu)) (by simpa using hl) h3
        exact ⟨rfl, h4⟩
  have hkk : k = k' := by
    have h1 := sound_kinds sa
    have h2 := sound_kinds sb
    rw [bytesT_mk, bytesT_mk, List.cons_append, List.cons_append] at h
    have := b8_inj (List.cons.inj h).1
    omega
  subst hkk
  rw [bytesT_mk, bytesT_mk, List.cons_append, List.cons_append] at h
  have h := (List.cons.inj h).2
  have hk9 := sound_kinds sa
  have hs0 : ∀ {s : ByteArray}, s.size = 0 → s = ByteArray.empty := fun {s} e => by
    obtain ⟨d⟩ := s
    have : d = #[] := Array.eq_empty_of_size_eq_zero e
    rw [this]; rfl
  have hcases : k = 1 ∨ k = 2 ∨ k = 3 ∨ k = 4 ∨ k = 5 ∨ k = 6 ∨ k = 7 ∨ k = 8 ∨ k = 9 := by omega
  rcases hcases with rfl | rfl | rfl | rfl | rfl | rfl | rfl | rfl | rfl
  all_goals
    simp [soundK] at sa sb
    simp [midB, hasN, lenB, hasB, List.append_assoc] at h
  · obtain ⟨a1, a2, a3, a4⟩ := sa
    obtain ⟨c1, c2, c3, c4⟩ := sb
    obtain ⟨e, hr⟩ := app_inj h (by simp [le8_len])
    have en := le8_inj (by omega) (by omega) e
    have e1 : s = ByteArray.empty := by first | exact a3 | exact hs0 a3
    have e2 : s' = ByteArray.empty := by first | exact c3 | exact hs0 c3
    subst e1 e2 en a4 c4
    exact ⟨rfl, hr⟩
  · obtain ⟨a1, a2, a3⟩ := sa
    obtain ⟨c1, c2, c3⟩ := sb
    obtain ⟨h1, h2⟩ := h
    have h1 := b8_inj h1
    obtain ⟨e, hr⟩ := app_inj h2 (by rw [strB_len, strB_len]; omega)
    have en := strB_inj e
    subst a1 c1 en a3 c3
    exact ⟨rfl, hr⟩
  · obtain ⟨a1, a2, a3, a4⟩ := sa
    obtain ⟨c1, c2, c3, c4⟩ := sb
    obtain ⟨e, hr⟩ := app_inj h (by simp [le8_len])
    have en := le8_inj (by omega) (by omega) e
    have e1 : s = ByteArray.empty := by first | exact a3 | exact hs0 a3
    have e2 : s' = ByteArray.empty := by first | exact c3 | exact hs0 c3
    subst e1 e2 en a4 c4
    exact ⟨rfl, hr⟩
  · obtain ⟨a1, a2, a3, a4⟩ := sa
    obtain ⟨c1, c2, c3, c4⟩ := sb
    obtain ⟨e, hr⟩ := app_inj h (by simp [le8_len])
    have en := le8_inj (by omega) (by omega) e
    have e1 : s = ByteArray.empty := by first | exact a3 | exact hs0 a3
    have e2 : s' = ByteArray.empty := by first | exact c3 | exact hs0 c3
    subst e1 e2 en a4 c4
    exact ⟨rfl, hr⟩
  · obtain ⟨a1, a2, a3, a4⟩ := sa
    obtain ⟨c1, c2, c3, c4⟩ := sb
    obtain ⟨e, hr⟩ := app_inj h (by simp [le8_len])
    have en := le8_inj (by omega) (by omega) e
    have e1 : s = ByteArray.empty := by first | exact a3 | exact hs0 a3
    have e2 : s' = ByteArray.empty := by first | exact c3 | exact hs0 c3
    have h1 := b8_inj (List.cons.inj hr).1
    obtain ⟨hl, hr2⟩ := hparts l l' r r' (fun _ h => h) (fun _ h => h) (by omega) (List.cons.inj hr).2
    subst e1 e2 en hl
    exact ⟨rfl, hr2⟩
  · obtain ⟨a1, a2, a3, a4⟩ := sa
    obtain ⟨c1, c2, c3, c4⟩ := sb
    obtain ⟨e, hr⟩ := app_inj h (by simp [le8_len])
    have en := le8_inj (by omega) (by omega) e
    have e1 : s = ByteArray.empty := by first | exact a3 | exact hs0 a3
    have e2 : s' = ByteArray.empty := by first | exact c3 | exact hs0 c3
    subst e1 e2 en a4 c4
    exact ⟨rfl, hr⟩
  · obtain ⟨a1, a3, a4⟩ := sa
    obtain ⟨c1, c3, c4⟩ := sb
    obtain ⟨h1, h2⟩ := h
    have h1 := b8_inj h1
    have e1 : s = ByteArray.empty := by first | exact a3 | exact hs0 a3
    have e2 : s' = ByteArray.empty := by first | exact c3 | exact hs0 c3
    obtain ⟨hl, hr2⟩ := hparts l l' r r' (fun _ h => h) (fun _ h => h) (by omega) h2
    subst a1 c1 e1 e2 hl
    exact ⟨rfl, hr2⟩
  · obtain ⟨a1, a3, a4⟩ := sa
    obtain ⟨c1, c3, c4⟩ := sb
    have e1 : s = ByteArray.empty := by first | exact a3 | exact hs0 a3
    have e2 : s' = ByteArray.empty := by first | exact c3 | exact hs0 c3
    subst a1 c1 e1 e2 a4 c4
    refine ⟨rfl, ?_⟩
    first | assumption | simpa [midB, hasN, lenB, hasB] using h
  · obtain ⟨a1, a3, a4⟩ := sa
    obtain ⟨c1, c3, c4⟩ := sb
    have e1 : s = ByteArray.empty := by first | exact a3 | exact hs0 a3
    have e2 : s' = ByteArray.empty := by first | exact c3 | exact hs0 c3
    obtain ⟨hl, hr2⟩ := hparts l l' r r' (fun _ h => h) (fun _ h => h) (by omega) h
    subst a1 c1 e1 e2 hl
    exact ⟨rfl, hr2⟩
theorem bytes_same {a b : Tm} (ha : Snd a) (hb : Snd b) : bytesT a = bytesT b ↔ a = b :=
  ⟨fun h => (bytes_inj a b [] [] ha hb (by rw [h])).1, fun h => by rw [h]⟩
theorem snd_of_chk {t : Tm} (h : chk t = 0) : Snd t := by
  unfold chk at h
  unfold Snd
  split at h
  · assumption
  · omega
theorem strB_bound (s : ByteArray) (h : s.size ≤ 64) : (strB s).length ≤ 64 := by rw [strB_len]; exact h
end Go.Proofs.Ytbpdaoedmjpdpaa.Hs
