/- The law AtomScript returns true for every input: the numbers atoms get, and what a table tells then, are the document's. -/
import Derived.Test.YtnomnkohhfkdnaaTells06
import Derived.Test.YtnomnkohhfkdnaaOpen
import Derived.Test.YtnomnkohhfkdnaaAtomKnown
namespace Go.Proofs.Ytnomnkohhfkdnaa.AtomScript
open Go.RowKit K At
open Go.ChangeShapes Go.WideShapes Go.ChangeAt
set_option linter.unusedVariables false
set_option linter.unusedSimpArgs false

set_option maxRecDepth 100000 in
set_option maxHeartbeats 8000000 in
theorem walk (A : Option Addr) (c : Nat) (xs : List ByteArray) (n : Int) (w : World) (hx : Reads w w.heap.size 1 A xs.length (xs.map Value.string)) (hsz : ∀ s ∈ xs, s.size ≤ maxLen) (hlc : xs.length ≤ maxLen) (hn : (Lit.int .i64 n).wf = true) :
    Calls Try.prog 6 #[.slice A xs.length c, .int .i64 n] w fun e w' => e = .returned (.bool true) ∧ Below w.heap.size w w' := by
  by_cases h60 : 60 < xs.length
  · unfold maxLen at hlc
    have hb := Below.refl w.heap.size w
    go_enter Try.func6, Try.ntmps6
    go_wp2_with fail
    go_ret
    exact ⟨ret1_b rfl, hb⟩
  · have h60' : xs.length ≤ 60 := by omega
    clear h60 hlc
    have HX := Lib.hid hx
    have HZ := Lib.hid hsz
    have HN := Lib.hid hn
    clear hx hsz hn
    go_enter Try.func6, Try.ntmps6
    go_wp2_with (go_at_call 8; refine (new_any _).mono ?_; rintro e w1 ⟨g, rfl, hT, hb⟩; have HM := Lib.hid (StR.made hT hb); clear hT hb)
    go_loopw [7] (fun i wr => ∃ (k : Nat) (L : List ByteArray), k ≤ xs.length ∧ i = .int .i64 (k : Int) ∧ StR w.heap.size w g w1.heap.size L wr) (fun i _ => xs.length - (intOf i).toNat)
    case atStart => exact ⟨0, [], Nat.zero_le _, rfl, HM.out⟩
    case round =>
      obtain ⟨k, L, hk, rfl, hS⟩ := hrel
      clear HM
      by_cases hlt : k < xs.length
      · have hb := hS.1
        obtain ⟨ad, u, hA, had, hu, hc⟩ := HX.out.at_ hlt
        rw [List.getElem?_map, List.getElem?_eq_getElem hlt] at hu
        injection hu with hu
        subst hu
        obtain ⟨s, hs⟩ : ∃ s, xs[k] = s := ⟨_, rfl⟩
        rw [hs] at hc
        have hm2 : s.size ≤ maxLen := HZ.out s (by rw [← hs]; exact List.getElem_mem _)
        have hm3 : s.size ≤ 9223372036854775807 := by unfold maxLen at hm2; exact hm2
        have HM2 := Lib.hid hm2
        clear hs hm2
        have hA1 := Lib.hid hA
        subst hA
        have cs := (hb.cell (p := ad.add k) (by rw [block_of_add]; exact had)).trans hc
        by_cases h100 : 100 < s.size
        · clear hb hc
          have HB := Lib.hid hS.1
          clear hS
          go_wp2_with fail
          go_ret
          exact ⟨ret1_b rfl, HB.out⟩
        · have p0 := pickN_range (x := n) (n := (k : Int) + 1) (by omega)
          obtain ⟨m, hm⟩ : ∃ m : Nat, pickN n ((k : Int) + 1) = (m : Int) := ⟨(pickN n ((k : Int) + 1)).toNat, by omega⟩
          have hm1 : m < xs.length := by omega
          have HP := Lib.hid (fun w' => hm ▸ pick_any n ((k : Int) + 1) HN.out (WalkArith.wf_i64 (by omega)) w')
          obtain ⟨ad2, u2, hA2, _, hu2, hc2⟩ := HX.out.at_ hm1
          injection hA2 with hA2
          subst hA2
          rw [List.getElem?_map, List.getElem?_eq_getElem hm1] at hu2
          injection hu2 with hu2
          subst hu2
          obtain ⟨s2, hs2⟩ : ∃ s, xs[m] = s := ⟨_, rfl⟩
          rw [hs2] at hc2
          have HS2 := Lib.hid (HZ.out s2 (by rw [← hs2]; exact List.getElem_mem _))
          have hp1 : (m : Int) < (k : Int) + 1 := by omega
          clear hs2 p0 hm hb
          have HI := Lib.hid (hS.intern s HM2.out)
          clear hS
          go_wp2_with fail
          refine HI.out.mono ?_
          rintro e w2 ⟨rfl, hb2, h2⟩
          have H2 := Lib.hid h2
          clear h2
          have cs2 := (hb2.cell (p := ad.add k) (by rw [block_of_add]; exact had)).trans hc
          go_wp2_with fail
          refine H2.out.mono ?_
          rintro e w3 ⟨rfl, hS3⟩
          have hb3 := hS3.1
          have cs3 := (hb3.cell (p := ad.add m) (by rw [block_of_add]; exact had)).trans hc2
          have HS3 := Lib.hid hS3
          clear hS3 hb2 hb3
          go_wp2_with (first
            | (go_at_call 14; refine (HP.out _).mono ?_; rintro e w4 ⟨rfl, rfl⟩)
            | (go_at_call 18; refine (tells_any _ _ _ _ _ n s2 _ HS3.out HS2.out).mono ?_; rintro e w5 ⟨rfl, h5⟩; have HS5 := Lib.hid h5; clear h5 cs3))
          go_roundw
          case rel => exact ⟨k + 1, _, by omega, by go_num, HS5.out⟩
          case measure => simp [intOf]; omega
      · have HS := Lib.hid hS
        clear hS
        go_wp2_with (first
          | (go_at_call 18; refine (tells_any _ _ _ _ _ n _ _ HS.out (by decide)).mono ?_; rintro e w5 ⟨rfl, h5⟩; have hb5 := h5.1; have hz5 := h5.2.1; clear h5 HS)
          | (go_at_call 13; refine (awake_any _).mono ?_; rintro e w6 ⟨rfl, hb6⟩; have hb7 := hb5.trans (hb6.mono hz5); clear hb6 hb5 hz5))
        go_ret
        exact ⟨ret1_b rfl, hb7⟩

theorem contract {H : Type} {enc : TypeId × Value → H} (W : World) {base : Nat} {r : Reach} {b : Nat} {hd : Bool} {v0 v1 : Value} {d0 d1 : DataW H} {p0 p1 : List MemPlace}
    (o0 : Value.okWide Try.prog W r b 38 v0) (h0 : DataW.Trod enc Try.prog W base (fun _ => true) hd 38 v0 d0 p0) (o1 : Value.okWide Try.prog W r b 3 v1) (h1 : DataW.Trod enc Try.prog W base (fun _ => true) hd 3 v1 d1 p1) {Q R : Prop} (_ : Q) (_ : R) :
    Calls Try.prog 6 #[v0, v1] W fun e w' => e = .returned (.bool true) ∧ Below W.heap.size W w' := by
  obtain ⟨A, c, xs, rfl, hx, hs, l1, l2, _⟩ := open_strs_arg Try.underlying38 Try.underlying9 (by kernel_rfl) o0 h0
  obtain ⟨a1, rfl, _, _, w1⟩ := open_int Try.underlying3 o1 h1
  exact walk A c xs a1 W hx hs (by omega) w1

theorem own : ownKnob Try.prog.godebug = none := by kernel_rfl
theorem laidOut : laidOutB Try.prog = true := by kernel_rfl
theorem readable : ∀ t ∈ Try.f6.params.toList, Try.prog.readableRec t = true ∧ t < Try.prog.types.size := by
  rw [show Try.f6.params = #[38, 3] from Try.params6]
  intro t h
  simp only [List.mem_cons, List.not_mem_nil, or_false] at h
  rcases h with rfl | rfl
  · exact ⟨by kernel_rfl, of_decide_eq_true (by kernel_rfl)⟩
  · exact ⟨by kernel_rfl, of_decide_eq_true (by kernel_rfl)⟩
set_option maxRecDepth 100000 in
theorem lifted (os : Os) (started : os.Started) (H : Type) (enc : TypeId × Value → H) :
    ReturnsInHanded {} Try.checked os 6 .any (Rows.atomScriptSpec.pre6 enc Try.prog Try.f6 Rows.atomScriptRow.domain false) (Rows.atomScriptSpec.post enc Try.prog Try.f6 false true false false) := by
  refine K.law_lift (C := Try.checked) (b := 4) own started (by kernel_rfl) Try.func6
    (ChangeSpec.witness6 (enc := enc) (C := Try.checked) false ⟨#[], #[.slice none 0 0, .int .i64 0], []⟩ 8 (by kernel_rfl) (by kernel_rfl) (by kernel_rfl) (by kernel_rfl)) laidOut readable rfl rfl Try.underlying4 ?_ ?_
  · intro ds hds
    rw [show Try.f6.params = #[38, 3] from Try.params6] at hds
    match ds, hds with
    | [d0, d1], _ => rfl
  · intro W base args ds p hval hA hlt hsz
    rw [show Try.checked.prog = Try.prog from rfl] at hval hA hsz
    rw [show Try.f6.params = #[38, 3] from Try.params6] at hA hval hsz
    obtain ⟨v0, vs0, d0, ds0, p0, q0, hargs, rfl, rfl, h0, r0⟩ := trodAll_cons hA
    obtain ⟨v1, vs1, d1, ds1, p1, q1, rfl, rfl, rfl, h1, r1⟩ := trodAll_cons r0
    obtain ⟨rfl, rfl, rfl⟩ := trodAll_nil r1
    obtain rfl : args = #[v0, v1] := by cases args; simp_all
    exact contract W (hval 0 38 v0 rfl rfl) h0 (hval 1 3 v1 rfl rfl) h1 (fun x hx => hlt x hx) hsz

theorem over : Rows.atomScriptRow.holds Try.pinned (OpenSpec.ofChange Rows.atomScriptSpec) :=
  OpenClaim.holds_of_wide 6 Try.f6 rfl rfl rfl rfl rfl rfl rfl ⟨rfl, rfl, rfl, rfl, rfl⟩ rfl rfl rfl rfl rfl (by kernel_rfl) Try.func6 (by kernel_rfl)
    (of_decide_eq_true (by kernel_rfl)) (by unfold Func.isWrapper; rw [if_neg (of_decide_eq_false (by kernel_rfl))]; exact ⟨rfl, rfl⟩)
    (fun os started H enc _ => lifted os started H enc)

/-- THE STATEMENT -/
theorem proved : Rows.AtomScriptSaid := over
#print axioms proved

end Go.Proofs.Ytnomnkohhfkdnaa.AtomScript
