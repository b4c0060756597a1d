/- tenureref02.Same, by its contract. -/
import Derived.Test.YtlaplakaifmpeaaTmSame
namespace Go.Proofs.Ytlaplakaifmpeaa.K
open Go.RowKit
set_option linter.unusedVariables false
set_option linter.unusedSimpArgs false

def RSameC (a : Tm) : Prop := ∀ (b : Tm) (v v' : Value) (w : World), TA w a v → TA w b v' →
  Calls Try.prog 65 #[v, v'] w fun e w' => e = .returned (.bool (eqT a b)) ∧ Below w.heap.size w w'

set_option maxRecDepth 100000 in
set_option maxHeartbeats 4000000 in
theorem rsame_any : ∀ a : Tm, RSameC a := by
  refine Tm.ind fun a ih b v v' w h h' => ?_
  obtain ⟨k0, n0, s, l, A, c, rfl, rfl, ok, hl⟩ := h.open_
  obtain ⟨k', n', s', l', A', c', rfl, rfl, ok', hl'⟩ := h'.open_
  have l1 := Nat.le_trans ok.hl ok.hc
  have l2 := Nat.le_trans ok'.hl ok'.hc
  unfold maxLen at l1 l2
  simp only [Tm.l_mk] at ih l1 l2
  obtain ⟨w1, hw1⟩ : ∃ w1, (w.alloc (.cells #[.int .i64 k0, .int .i64 n0, .string s, .slice A l.length c] 24)).alloc (.cells #[.int .i64 k', .int .i64 n', .string s', .slice A' l'.length c'] 24) = w1 := ⟨_, rfl⟩
  have HR := Lib.hid (show Below w.heap.size w w1 from by rw [← hw1]; exact ballocs (ballocs (Below.refl w.heap.size w) _) _)
  have HGa := Lib.hid (show Blk w1 w.heap.size 24 #[.int .i64 k0, .int .i64 n0, .string s, .slice A l.length c] from by rw [← hw1]; exact (Blk.new _ _ _).alloc _)
  have HGb := Lib.hid (show Blk w1 (w.heap.size + 1) 24 #[.int .i64 k', .int .i64 n', .string s', .slice A' l'.length c'] from by rw [← hw1, ← World.size_alloc w (.cells #[.int .i64 k0, .int .i64 n0, .string s, .slice A l.length c] 24)]; exact Blk.new _ _ _)
  have HLa := Lib.hid (hl.later HR.out)
  have HLb := Lib.hid (hl'.later HR.out)
  have HW := Lib.hid hw1
  clear ok ok' hl hl' h h' hw1
  by_cases hk : k0 = k'
  · by_cases hn : n0 = n'
    · by_cases hs : s = s'
      · subst hk hn hs
        have HE := Lib.hid (show eqT (.mk k0 n0 s l) (.mk k0 n0 s l') = eqTs l l' from by
          by_cases he : l = l'
          · rw [eqTs_iff.2 he, eqT_iff.2 (by rw [he])]
          · rw [eqTs_no.2 he, eqT_no.2 (fun hh => he (by injection hh))])
        by_cases hlen : l.length = l'.length
        · have HL := Lib.hid hlen
          rw [← hlen] at HGb HW ⊢
          clear hlen l2
          go_enter Try.func65, Try.ntmps65
          go_wp2_with fail
          rw [HW.out]
          go_loopw [5] (fun i wr => ∃ k : Nat, k ≤ l.length ∧ i = .int .i64 (k : Int) ∧ l.take k = l'.take k ∧ Below w1.heap.size w1 wr) (fun i _ => l.length - (intOf i).toNat)
          case atStart => exact ⟨0, Nat.zero_le _, rfl, by simp, Below.refl _ _⟩
          case round =>
            obtain ⟨k, hk, rfl, htk, hb⟩ := hrel
            obtain ⟨p0, p1, p2, p3, q0, q1, q2, q3⟩ := (HGa.out.below hb HGa.out.lt).four
            obtain ⟨r0, r1, r2, r3, s0, s1, s2, s3⟩ := (HGb.out.below hb HGb.out.lt).four
            have HB := Lib.hid hb
            have HT := Lib.hid htk
            clear hb htk p0 p1 p2 r0 r1 r2
            by_cases hlt : k < l.length
            · obtain ⟨u, hu⟩ : ∃ u, l[k]? = some u := ⟨_, List.getElem?_eq_getElem hlt⟩
              obtain ⟨u', hu'⟩ : ∃ u, l'[k]? = some u := ⟨_, List.getElem?_eq_getElem (by have := HL.out; omega)⟩
              obtain ⟨b, o, A1, c1, rfl, hb1, d0, d1, d2, d3, hta, _⟩ := (HLa.out.later HB.out).at_ hu
              obtain ⟨b', o', A2, c2, rfl, hb2, e0, e1, e2, e3, hta', _⟩ := (HLb.out.later HB.out).at_ hu'
              have HC := Lib.hid (ih u (List.mem_of_getElem? hu) u' _ _ _ hta.drew hta'.drew)
              clear hta hta' ih
              have HU := Lib.hid hu; have HU' := Lib.hid hu'
              clear hu hu'
              go_wp2_with fail
              go_still_tail 10, (by kernel_rfl)
              change wpList _ _ _ _ _ wr.drew
              by_cases he : u = u'
              · have HE := Lib.hid he
                have hq := eqT_iff.2 he
                clear he
                go_wp2_with (first | (go_at_call 65; refine HC.out.mono ?_; rintro e w2 ⟨rfl, hb2⟩; have HB2 := Lib.hid hb2; clear hb2) | fail)
                go_roundw
                case rel => exact ⟨k + 1, by omega, by go_num, by rw [List.take_add_one, List.take_add_one, HT.out, HU.out, HU'.out, HE.out], bnext HB.out (bundrew HB2.out)⟩
                case measure => simp [intOf]; omega
              · have HE2 := Lib.hid he
                have hq := eqT_no.2 he
                clear he
                go_wp2_with (first | (go_at_call 65; refine HC.out.mono ?_; rintro e w2 ⟨rfl, hb2⟩; have HB2 := Lib.hid hb2; clear hb2) | fail)
                go_ret
                refine ⟨ret1_b (HE.out.trans (eqTs_no.2 fun hh => HE2.out ?_)).symm, bnext HR.out (bnext HB.out (bundrew HB2.out))⟩
                have h1 := HU.out
                rw [hh, HU'.out] at h1
                injection h1 with h1
                exact h1.symm
            · have : k = l.length := by omega
              subst this
              have HQ : Hid (l = l') := by
                have := HT.out
                rw [List.take_length, List.take_of_length_le (by have := HL.out; omega)] at this
                exact this
              clear ih
              go_wp2_with fail
              go_ret
              exact ⟨ret1_b (HE.out.trans (eqTs_iff.2 HQ.out)).symm, bnext HR.out HB.out⟩
        · have HE2 := Lib.hid (eqTs_no.2 fun (hh : l = l') => hlen (by rw [hh]))
          clear ih
          go_enter Try.func65, Try.ntmps65
          go_wp2_with fail
          go_ret
          exact ⟨ret1_b (HE.out.trans HE2.out).symm, by rw [HW.out]; exact HR.out⟩
      · subst hk hn
        have HE := Lib.hid (eqT_no.2 fun (hh : Tm.mk k0 n0 s l = .mk k0 n0 s' l') => hs (by injection hh))
        have hq := tstr_ne hs
        clear ih
        go_enter Try.func65, Try.ntmps65
        go_wp2_with fail
        go_ret
        exact ⟨ret1_b HE.out.symm, by rw [HW.out]; exact HR.out⟩
    · subst hk
      have HE := Lib.hid (eqT_no.2 fun (hh : Tm.mk k0 n0 s l = .mk k0 n' s' l') => hn (by injection hh))
      have hq : (n0 == n') = false := by simpa using hn
      clear ih
      go_enter Try.func65, Try.ntmps65
      go_wp2_with fail
      go_ret
      exact ⟨ret1_b HE.out.symm, by rw [HW.out]; exact HR.out⟩
  · have HE := Lib.hid (eqT_no.2 fun (hh : Tm.mk k0 n0 s l = .mk k' n' s' l') => hk (by injection hh))
    have hq : (k0 == k') = false := by simpa using hk
    clear ih
    go_enter Try.func65, Try.ntmps65
    go_wp2_with fail
    go_ret
    exact ⟨ret1_b HE.out.symm, by rw [HW.out]; exact HR.out⟩
end Go.Proofs.Ytlaplakaifmpeaa.K
