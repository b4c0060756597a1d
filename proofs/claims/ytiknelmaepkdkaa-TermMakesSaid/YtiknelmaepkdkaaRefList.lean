/- tenureref02.MakeList, by its contract (XTmMake's walk of Pairs with the other function's number). -/
import Derived.Test.YtiknelmaepkdkaaTmMake
namespace Go.Proofs.Ytiknelmaepkdkaa.K
open Go.RowKit
set_option linter.unusedVariables false
set_option linter.unusedSimpArgs false

set_option maxRecDepth 100000 in
set_option maxHeartbeats 4000000 in
theorem rlist_at (G : Nat → Prop) (l : List Tm) (e : Tm) (A : Option Addr) (c : Nat) (v : Value) (w : World) (hG : ∀ b, G b → b < w.heap.size) (h : TsAt w G A l) (he : TAt w G e v) (hl : l.length ≤ maxLen) :
    Calls Try.prog 15 #[.slice A l.length c, v] w (ToldF w G (tlist l e)) := by
  unfold maxLen at hl
  obtain ⟨A0, c0, rfl, ok, hl0⟩ := he.inv
  obtain ⟨k0, n0, s0, l0⟩ := e
  unfold tv at he ⊢
  simp only [Tm.k_mk, Tm.n_mk, Tm.s_mk, Tm.l_mk] at he ok hl0 ⊢
  have HE := Lib.hid he
  have HL := Lib.hid h
  clear he hl0 ok h
  go_enter Try.func15, Try.ntmps15
  go_wp2_with fail
  go_loopw [6] (fun i wr => PaRel w G l (.mk k0 n0 s0 l0) i wr) (fun i _ => (intOf i + 1).toNat)
  case atStart => exact pa_start hG HE.out _
  case round =>
    obtain ⟨j, k7, n7, s7, A7, m7, c7, hj, rfl, hta, hB1, hB2, hb⟩ := hrel
    obtain ⟨p0, p1, p2, p3, q0, q1, q2, q3⟩ := hB2.four
    have HT := Lib.hid hta; have HB1 := Lib.hid hB1; have HB2 := Lib.hid hB2; have HB := Lib.hid hb
    clear hta hB1 hB2 hb
    cases j with
    | zero =>
      have hT := HT.out
      rw [List.drop_zero] at hT
      have HF := Lib.hid (pa_end hT HB.out)
      obtain ⟨r0, r1, r2, r3, s0, s1, s2, s3⟩ := HB1.out.four
      clear hT
      rw [show ((0 : Nat) : Int) - 1 = -1 from rfl]
      go_wp2_with fail
      exact bodyPost_ret (v := .agg #[.int .i64 k7, .int .i64 n7, .string s7, .slice A7 m7 c7]) (by simp [results, Try.results15, go_sem, r0, r1, r2, r3]) rfl ⟨_, rfl, HF.out.1, HF.out.2⟩
    | succ m =>
      rw [show ((m + 1 : Nat) : Int) - 1 = (m : Int) from by omega]
      obtain ⟨u, hu⟩ : ∃ u, l[m]? = some u := ⟨_, List.getElem?_eq_getElem (by omega)⟩
      obtain ⟨b, o, A1, c1, rfl, hb1, d0, d1, d2, d3, hta, _⟩ := (HL.out.under HB.out hG).at_ hu
      have hlt : m < l.length := by omega
      have HU := Lib.hid (tlist_drop (e := .mk k0 n0 s0 l0) hu)
      obtain ⟨r0, r1, r2, r3, s0, s1, s2, s3⟩ := (HB2.out.alloc (.cells #[.int .i64 u.k, .int .i64 u.n, .string u.s, .slice A1 u.l.length c1, .int .i64 k7, .int .i64 n7, .string s7, .slice A7 m7 c7] 24)).four
      have HTA := Lib.hid (HL.out.at_ hu)
      clear hu hta
      go_wp2_with fail
      go_still_tail 5, (by kernel_rfl)
      change wpList _ _ _ _ _ wr.drew
      go_wp2_with fail
      refine ⟨pa_step hG hlt HU.out ?_ HT.out HB1.out HB2.out HB.out, by simp [intOf]⟩
      obtain ⟨_, _, A5, c5, hA5, hb5, e0, e1, e2, e3, hta5, hk5⟩ := HTA.out
      injection hA5 with hA5
      injection hA5 with f1 f2
      subst f1 f2
      have e3' := (HB.out.cell (p := ⟨b, o + m * 4 + 3, none⟩) (hG _ hb5)).trans e3
      rw [d3] at e3'
      injection e3' with e3'
      injection e3' with g1 g2 g3
      subst g1 g3
      exact TAt.of hta5 hk5
end Go.Proofs.Ytiknelmaepkdkaa.K
