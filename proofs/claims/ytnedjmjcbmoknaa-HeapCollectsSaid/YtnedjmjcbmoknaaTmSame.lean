/- SameTerm, SameTerms of tenurekit, by contracts. -/
import Derived.Test.YtnedjmjcbmoknaaLawKit
import Derived.Test.YtnedjmjcbmoknaaTm
import Derived.Outline
import Derived.Deep.QuietTactic
import Derived.BigQuiet
import Derived.StillTailTactics
import Derived.WalkLawsBesides
import Derived.WalkSpells
namespace Go.Proofs.Ytnedjmjcbmoknaa.K
open Go.RowKit
set_option linter.unusedVariables false
set_option linter.unusedSimpArgs false

def SameC (a : Tm) : Prop := ∀ (b : Tm) (v v' : Value) (w : World), TA w a v → TA w b v' →
  Calls Try.prog 32 #[v, v'] w fun e w' => e = .returned (.bool (eqT a b)) ∧ Below w.heap.size w w'

set_option maxRecDepth 100000 in
set_option maxHeartbeats 4000000 in
theorem sameTerms_of (l l' : List Tm) (A A' : Option Addr) (c c' : Nat) (w : World) (h : TsA w A l) (h' : TsA w A' l') (hl : l.length ≤ maxLen) (hl' : l'.length ≤ maxLen) (ih : ∀ u ∈ l, SameC u) :
    Calls Try.prog 49 #[.slice A l.length c, .slice A' l'.length c'] w fun e w' => e = .returned (.bool (eqTs l l')) ∧ Below w.heap.size w w' := by
  unfold maxLen at hl hl'
  have HR := Lib.hid (Below.refl w.heap.size w)
  by_cases hlen : l.length = l'.length
  · have HL := Lib.hid hlen
    rw [← hlen]
    clear hlen hl'
    go_enter Try.func49, Try.ntmps49
    go_wp2_with fail
    go_loopw [5] (fun i wr => ∃ k : Nat, k ≤ l.length ∧ i = .int .i64 (k : Int) ∧ l.take k = l'.take k ∧ Below w.heap.size w wr) (fun i _ => l.length - (intOf i).toNat)
    case atStart => exact ⟨0, Nat.zero_le _, rfl, by simp, HR.out⟩
    case round =>
      obtain ⟨k, hk, rfl, htk, hb⟩ := hrel
      have HB := Lib.hid hb
      have HT := Lib.hid htk
      clear hb htk
      by_cases hlt : k < l.length
      · obtain ⟨u, hu⟩ : ∃ u, l[k]? = some u := ⟨_, List.getElem?_eq_getElem hlt⟩
        obtain ⟨u', hu'⟩ : ∃ u, l'[k]? = some u := ⟨_, List.getElem?_eq_getElem (by have := HL.out; omega)⟩
        obtain ⟨b, o, A1, c1, rfl, hb1, d0, d1, d2, d3, hta, _⟩ := (h.later HB.out).at_ hu
        obtain ⟨b', o', A2, c2, rfl, hb2, e0, e1, e2, e3, hta', _⟩ := (h'.later HB.out).at_ hu'
        have HC := Lib.hid (ih u (List.mem_of_getElem? hu) u' _ _ _ hta.drew hta'.drew)
        clear hta hta' h h' ih
        have HU := Lib.hid hu; have HU' := Lib.hid hu'
        clear hu hu'
        go_wp2_with fail
        go_still_tail 8, (by kernel_rfl)
        change wpList _ _ _ _ _ wr.drew
        by_cases he : u = u'
        · have HE := Lib.hid he
          have hq := eqT_iff.2 he
          clear he
          go_wp2_with (first | (go_at_call 32; refine HC.out.mono ?_; rintro e w2 ⟨rfl, hb2⟩; have HB2 := Lib.hid hb2; clear hb2) | fail)
          go_roundw
          case rel => exact ⟨k + 1, by omega, by go_num, by rw [List.take_add_one, List.take_add_one, HT.out, HU.out, HU'.out, HE.out], bnext HB.out (bundrew HB2.out)⟩
          case measure => simp [intOf]; omega
        · have HE := Lib.hid he
          have hq := eqT_no.2 he
          clear he
          go_wp2_with (first | (go_at_call 32; refine HC.out.mono ?_; rintro e w2 ⟨rfl, hb2⟩; have HB2 := Lib.hid hb2; clear hb2) | fail)
          go_ret
          refine ⟨ret1_b (eqTs_no.2 fun hh => HE.out ?_).symm, bnext HB.out (bundrew HB2.out)⟩
          have h1 := HU.out
          rw [hh, HU'.out] at h1
          injection h1 with h1
          exact h1.symm
      · have : k = l.length := by omega
        subst this
        have HE : Hid (l = l') := by
          have := HT.out
          rw [List.take_length, List.take_of_length_le (by have := HL.out; omega)] at this
          exact this
        clear h h' ih
        go_wp2_with fail
        go_ret
        exact ⟨ret1_b (eqTs_iff.2 HE.out).symm, HB.out⟩
  · have HE := Lib.hid (eqTs_no.2 fun (hh : l = l') => hlen (by rw [hh]))
    clear h h' ih
    go_enter Try.func49, Try.ntmps49
    go_wp2_with fail
    go_ret
    exact ⟨ret1_b HE.out.symm, HR.out⟩

set_option maxRecDepth 100000 in
set_option maxHeartbeats 4000000 in
theorem sameTerm_any : ∀ a : Tm, SameC a := by
  refine Tm.ind fun a ih b v v' w h h' => ?_
  obtain ⟨k, n, s, l, A, c, rfl, rfl, ok, hl⟩ := h.open_
  obtain ⟨k', n', s', l', A', c', rfl, rfl, ok', hl'⟩ := h'.open_
  have l1 := Nat.le_trans ok.hl ok.hc
  have l2 := Nat.le_trans ok'.hl ok'.hc
  simp only [Tm.l_mk] at ih l1 l2
  have HC := Lib.hid (sameTerms_of l l' A A' c c' _ ((hl.alloc (.cells #[.int .i64 k, .int .i64 n, .string s, .slice A l.length c] 28)).alloc (.cells #[.int .i64 k', .int .i64 n', .string s', .slice A' l'.length c'] 28)) ((hl'.alloc _).alloc _) l1 l2 ih)
  have HR := Lib.hid (ballocs (ballocs (Below.refl w.heap.size w) (.cells #[.int .i64 k, .int .i64 n, .string s, .slice A l.length c] 28)) (.cells #[.int .i64 k', .int .i64 n', .string s', .slice A' l'.length c'] 28))
  clear ih ok ok' hl hl' h h' l1 l2
  by_cases hk : k = k'
  · by_cases hn : n = n'
    · by_cases hs : s = s'
      · subst hk hn hs
        have HE := Lib.hid (show eqT (.mk k n s l) (.mk k n s l') = eqTs l l' from by
          by_cases he : l = l'
          · rw [eqTs_iff.2 he, eqT_iff.2 (by rw [he])]
          · rw [eqTs_no.2 he, eqT_no.2 (fun hh => he (by injection hh))])
        go_enter Try.func32, Try.ntmps32
        go_wp2_with (first | (go_at_call 49; refine HC.out.mono ?_; rintro e w2 ⟨rfl, hb2⟩; have HB2 := Lib.hid hb2; clear hb2) | fail)
        go_ret
        exact ⟨ret1_b HE.out.symm, bnext HR.out HB2.out⟩
      · subst hk hn
        have HE := Lib.hid (eqT_no.2 fun (hh : Tm.mk k n s l = .mk k n s' l') => hs (by injection hh))
        have hq := tstr_ne hs
        go_enter Try.func32, Try.ntmps32
        go_wp2_with fail
        go_ret
        exact ⟨ret1_b HE.out.symm, HR.out⟩
    · subst hk
      have HE := Lib.hid (eqT_no.2 fun (hh : Tm.mk k n s l = .mk k n' s' l') => hn (by injection hh))
      have hq : (n == n') = false := by simpa using hn
      go_enter Try.func32, Try.ntmps32
      go_wp2_with fail
      go_ret
      exact ⟨ret1_b HE.out.symm, HR.out⟩
  · have HE := Lib.hid (eqT_no.2 fun (hh : Tm.mk k n s l = .mk k' n' s' l') => hk (by injection hh))
    have hq : (k == k') = false := by simpa using hk
    go_enter Try.func32, Try.ntmps32
    go_wp2_with fail
    go_ret
    exact ⟨ret1_b HE.out.symm, HR.out⟩
theorem sameTerms_any (l l' : List Tm) (A A' : Option Addr) (c c' : Nat) (w : World) (h : TsA w A l) (h' : TsA w A' l') (hl : l.length ≤ maxLen) (hl' : l'.length ≤ maxLen) :
    Calls Try.prog 49 #[.slice A l.length c, .slice A' l'.length c'] w fun e w' => e = .returned (.bool (eqTs l l')) ∧ Below w.heap.size w w' := sameTerms_of l l' A A' c c' w h h' hl hl' (fun u _ => sameTerm_any u)
end Go.Proofs.Ytnedjmjcbmoknaa.K
