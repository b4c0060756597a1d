/- tenureref04.Bytes and Hash, by their contracts. -/
import Derived.Test.YtbpdaoedmjpdpaaRBnum
import Derived.Test.YtbpdaoedmjpdpaaRB5
import Derived.Test.YtbpdaoedmjpdpaaRB2
import Derived.Test.YtbpdaoedmjpdpaaRB7
import Derived.Test.YtbpdaoedmjpdpaaRB9
import Derived.Test.YtbpdaoedmjpdpaaRBnone
import Derived.Test.YtbpdaoedmjpdpaaRefMix
import Derived.Test.YtbpdaoedmjpdpaaHashHash
namespace Go.Proofs.Ytbpdaoedmjpdpaa.Hs
open Go.RowKit K
set_option linter.unusedVariables false
set_option linter.unusedSimpArgs false

theorem rbytes_any : ∀ t : Tm, RBytesC t := by
  refine Tm.ind fun t ih hN v w h => ?_
  obtain ⟨k0, n0, s, l, A, c, rfl, rfl, ok, hl⟩ := h.open_
  simp only [Tm.l_mk] at ih
  by_cases h1 : k0 = 1 ∨ k0 = 3 ∨ k0 = 4 ∨ k0 = 6
  · exact rb_num k0 n0 s l A c w ok hl ih hN h1
  by_cases h5 : k0 = 5
  · exact rb_5 k0 n0 s l A c w ok hl ih hN h5
  by_cases h2 : k0 = 2
  · exact rb_2 k0 n0 s l A c w ok hl ih hN h2
  by_cases h7 : k0 = 7
  · exact rb_7 k0 n0 s l A c w ok hl ih hN h7
  by_cases h9 : k0 = 9
  · exact rb_9 k0 n0 s l A c w ok hl ih hN h9
  exact rb_none k0 n0 s l A c w ok hl ih hN (by omega)
/-- As a slice that reads as the bytes. -/
theorem rbytesR_any (t : Tm) (hN : (bytesT t).length ≤ 1099511627776) (v : Value) (w : World) (h : TA w t v) : Calls Try.prog 24 #[v] w fun e w' =>
    ∃ A c, e = .returned (.slice A (bytesT t).length c) ∧ Reads w' w'.heap.size 1 A (bytesT t).length (encs8 (bytesT t)) ∧ (A = none → bytesT t = []) ∧ Below w.heap.size w w' := by
  refine (rbytes_any t hN v w h).mono ?_
  rintro e w' ⟨v', rfl, hr, hb⟩
  obtain ⟨A, c, rfl, _⟩ := ownsRow_form hr
  refine ⟨A, c, rfl, Reads.of_own hr, fun hA => ?_, hb⟩
  subst hA
  rcases hr.2 with ⟨h, hn⟩ | ⟨g, cap, cur, h, _⟩
  · exact List.eq_nil_of_length_eq_zero hn
  · cases h
set_option maxRecDepth 100000 in
set_option maxHeartbeats 4000000 in
theorem rhash_any (t : Tm) (hN : (bytesT t).length ≤ 1099511627776) (v : Value) (w : World) (h : TA w t v) : Calls Try.prog 26 #[v] w fun e w' => e = .returned (.int .u32 (hashT t)) ∧ Below w.heap.size w w' := by
  have HTA := Lib.hid h
  obtain ⟨k0, n0, s, l, A, c, rfl, rfl, ok, hl⟩ := h.open_
  obtain ⟨w1, hw1⟩ : ∃ w1, w.alloc (.cells #[.int .i64 k0, .int .i64 n0, .string s, .slice A l.length c] 35) = w1 := ⟨_, rfl⟩
  have HR := Lib.hid (show Below w.heap.size w w1 from by rw [← hw1]; exact ballocs (Below.refl w.heap.size w) _)
  have HW := Lib.hid hw1
  have HC := Lib.hid (rbytesR_any _ hN _ w1 (HTA.out.later HR.out))
  have hr := mixL_range (bytesT (.mk k0 n0 s l)) (h := 2166136261) (by omega)
  have HE := Lib.hid (show finI (mixL 2166136261 (bytesT (.mk k0 n0 s l))) = hashT (.mk k0 n0 s l) from rfl)
  have HMX := Lib.hid (fun B A c w' h => rmix_any (bytesT (.mk k0 n0 s l)) 2166136261 B A c w' (by omega) h (by omega))
  obtain ⟨y, hy⟩ : ∃ y, mixL 2166136261 (bytesT (.mk k0 n0 s l)) = y := ⟨_, rfl⟩
  rw [hy] at hr HE HMX
  obtain ⟨r1, r2⟩ := hr
  clear h ok hl hw1 hy hN
  go_enter Try.func26, Try.ntmps26
  go_wp2_with fail
  rw [HW.out]
  refine HC.out.mono ?_
  rintro e w2 ⟨A2, c2, rfl, hr2, _, hb2⟩
  have HB2 := Lib.hid (bnext HR.out hb2)
  have HR2 := Lib.hid hr2
  clear hb2 hr2
  go_wp2_with fail
  refine (HMX.out _ _ _ _ HR2.out).mono ?_
  rintro e w3 ⟨rfl, rfl⟩
  go_wp2_with fail
  go_ret
  exact ⟨by rw [← HE.out]; first | rfl | simp [finI], HB2.out⟩
end Go.Proofs.Ytbpdaoedmjpdpaa.Hs
