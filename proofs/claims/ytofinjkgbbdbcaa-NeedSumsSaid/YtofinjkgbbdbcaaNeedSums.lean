/- The law NeedSums returns true for all terms and numbers: what one more object and what a whole table needs is told as the document says. -/
import Derived.Test.YtofinjkgbbdbcaaLaw13
import Derived.Test.YtofinjkgbbdbcaaCopyAll
import Derived.Test.YtofinjkgbbdbcaaSameAll
import Derived.Test.YtofinjkgbbdbcaaSmall
import Derived.Test.YtofinjkgbbdbcaaOpenTs
namespace Go.Proofs.Ytofinjkgbbdbcaa.NeedSums
open Go.RowKit K Ar Nd
open Go.ChangeShapes Go.WideShapes Go.ChangeAt
set_option linter.unusedVariables false
set_option linter.unusedSimpArgs false

set_option maxRecDepth 100000 in
set_option maxHeartbeats 8000000 in
theorem walk (kd bk ct : Int) (l : List Tm) (A : Option Addr) (c : Nat) (w : World) (h : TsA w A l) (hl : l.length ≤ maxLen) : Calls Try.prog 4 #[.int .i64 kd, .int .i64 bk, .int .i64 ct, .slice A l.length c] w fun e w' => e = .returned (.bool true) ∧ Below w.heap.size w w' := by
  have HL := Lib.hid h
  have hll := hl
  unfold maxLen at hll
  have HLT := Lib.hid (fun w h => largeAll_any l 400 A c w (by omega) h hl)
  have HML := Lib.hid hl
  clear h hl
  by_cases h1 : largeB l 400 = true
  · go_enter Try.func4, Try.ntmps4
    go_wp2_with fail
    refine (HLT.out _ HL.out).mono ?_
    rintro e w2 ⟨rfl, hb2⟩
    have HB2 := Lib.hid hb2
    rw [h1]
    clear hb2
    go_wp2_with fail
    go_ret
    exact ⟨rfl, HB2.out⟩
  · have h1' : largeB l 400 = false := by simpa using h1
    have hn : nodesL l ≤ 1048576 := small_all h1' (by omega)
    have hnu := fun (u : Tm) (hm : u ∈ l) => Nat.le_trans (nodesL_mem hm) hn
    have HCP := Lib.hid (fun w h => copyAll_any l A c w h hn)
    have HS := Lib.hid (fun A c w h => sum_any kd bk l A c w h hn)
    have HRS := Lib.hid (fun A c w h => rsum_any kd bk l A c w h hn)
    have HP := Lib.hid (fun u (hm : u ∈ l) v w h => put_any kd bk ct u v w h (hnu u hm))
    have HRP := Lib.hid (fun u (hm : u ∈ l) v w h => rput_any kd bk ct u v w h (hnu u hm))
    have ea := eqTs_self l
    obtain ⟨x, hx⟩ : ∃ x, sumsN kd bk l = x := ⟨_, rfl⟩
    obtain ⟨y, hy⟩ : ∃ y, sumsE kd bk l = y := ⟨_, rfl⟩
    rw [hx, hy] at HS HRS
    clear h1 hn hx hy hnu
    go_enter Try.func4, Try.ntmps4
    go_wp2_with fail
    refine (HLT.out _ HL.out).mono ?_
    rintro e w2 ⟨rfl, hb2⟩
    have HB2 := Lib.hid hb2
    rw [h1']
    clear hb2
    go_wp2_with fail
    refine (HCP.out _ (HL.out.later HB2.out)).mono ?_
    rintro e w3 ⟨v3, rfl, ⟨A3, c3, rfl, _, _, _, ht3⟩, hb3⟩
    have HB3 := Lib.hid (bnext HB2.out hb3)
    have HX3 := Lib.hid (show TsA w3 A3 l from ht3.mono fun b hb => hb.2)
    clear ht3 hb3
    go_wp2_with fail
    refine (HS.out _ _ _ HX3.out).mono ?_
    rintro e w4 ⟨rfl, hb4⟩
    have HB4 := Lib.hid (bnext HB3.out hb4)
    have HX4 := Lib.hid (HX3.out.later hb4)
    clear hb4
    go_wp2_with fail
    refine (HRS.out _ _ _ (HL.out.later HB4.out)).mono ?_
    rintro e w5 ⟨rfl, hb5⟩
    have HB5 := Lib.hid (bnext HB4.out hb5)
    have HX5 := Lib.hid (HX4.out.later hb5)
    clear hb5
    go_wp2_with fail
    go_loopw [14] (fun i wr => ∃ k : Nat, k ≤ l.length ∧ i = .int .i64 (k : Int) ∧ Below w5.heap.size w5 wr) (fun i _ => l.length - (intOf i).toNat)
    case atStart => exact ⟨0, Nat.zero_le _, rfl, Below.refl _ _⟩
    case round =>
      obtain ⟨k, hk, rfl, hb⟩ := hrel
      have HB := Lib.hid hb
      clear hb
      by_cases hlt : k < l.length
      · obtain ⟨u, hu⟩ : ∃ u, l[k]? = some u := ⟨_, List.getElem?_eq_getElem hlt⟩
        have HM := Lib.hid (List.mem_of_getElem? hu)
        have HU := Lib.hid hu
        obtain ⟨b, o, A1, c1, rfl, hb1, d0, d1, d2, d3, hta, _⟩ := (HX5.out.later HB.out).at_ hu
        have HTA := Lib.hid hta
        obtain ⟨px, hpx⟩ : ∃ x, putN kd bk ct u = x := ⟨_, rfl⟩
        obtain ⟨py, hpy⟩ : ∃ x, putE kd bk ct u = x := ⟨_, rfl⟩
        have HP1 := HP.out u HM.out
        have HRP1 := HRP.out u HM.out
        rw [hpx, hpy] at HP1 HRP1
        have HP2 := Lib.hid HP1
        have HRP2 := Lib.hid HRP1
        clear hta hu HP1 HRP1 hpx hpy
        go_wp2_with fail
        refine (HP2.out _ _ HTA.out).mono ?_
        rintro e w6 ⟨rfl, hb6⟩
        have HB6 := Lib.hid (bnext HB.out hb6)
        clear hb6 d0 d1 d2 d3 hb1
        obtain ⟨b', o', A1', c1', rfl, hb1, d0, d1, d2, d3, hta, _⟩ := (HL.out.later (bnext HB5.out HB6.out)).at_ HU.out
        have HTA2 := Lib.hid hta
        clear hta
        go_wp2_with fail
        refine (HRP2.out _ _ HTA2.out).mono ?_
        rintro e w7 ⟨rfl, hb7⟩
        have HB7 := Lib.hid (bnext HB6.out hb7)
        clear hb7
        go_wp2_with fail
        go_roundw
        case rel => exact ⟨k + 1, by omega, by go_num, HB7.out⟩
        case measure => simp [intOf]; omega
      · obtain rfl : k = l.length := by omega
        go_wp2_with fail
        refine (sameAll_any l l A3 A c3 c wr (HX5.out.later HB.out) (HL.out.later (bnext HB5.out HB.out)) HML.out HML.out).mono ?_
        rintro e w6 ⟨rfl, hb6⟩
        have HB6 := Lib.hid (bnext (bnext HB5.out HB.out) hb6)
        rw [ea]
        clear hb6
        go_wp2_with fail
        refine (awake_any _).mono ?_
        rintro e w7 ⟨rfl, hb7⟩
        have HB7 := Lib.hid (bnext HB6.out hb7)
        clear hb7
        go_wp2_with fail
        go_ret
        exact ⟨rfl, HB7.out⟩

theorem contract {H : Type} {enc : TypeId × Value → H} (W : World) {base : Nat} {r r' r'' r3 : Reach} {b b' b'' b3 : Nat} {hd hd' hd'' hd3 : Bool} {v0 v1 v2 v3 : Value} {d0 d1 d2 d3 : DataW H} {p0 p1 p2 p3 : List MemPlace}
    (o0 : Value.okWide Try.prog W r b 3 v0) (h0 : DataW.Trod enc Try.prog W base (fun _ => true) hd 3 v0 d0 p0) (o1 : Value.okWide Try.prog W r' b' 3 v1) (h1 : DataW.Trod enc Try.prog W base (fun _ => true) hd' 3 v1 d1 p1)
    (o2 : Value.okWide Try.prog W r'' b'' 3 v2) (h2 : DataW.Trod enc Try.prog W base (fun _ => true) hd'' 3 v2 d2 p2)
    (o3 : Value.okWide Try.prog W r3 b3 22 v3) (h3 : DataW.Trod enc Try.prog W base (fun _ => true) hd3 22 v3 d3 p3) {Q R : Prop} (_ : Q) (_ : R) :
    Calls Try.prog 4 #[v0, v1, v2, v3] W fun e w' => e = .returned (.bool true) ∧ Below W.heap.size W w' := by
  obtain ⟨a0, rfl, _, _, w0⟩ := open_int Try.underlying3 o0 h0
  obtain ⟨a1, rfl, _, _, w1⟩ := open_int Try.underlying3 o1 h1
  obtain ⟨a2, rfl, _, _, w2⟩ := open_int Try.underlying3 o2 h2
  obtain ⟨A, c, l, rfl, hl, h4, h5, _⟩ := open_ts o3 h3
  exact walk a0 a1 a2 l A c W hl (by omega)

theorem own : ownKnob Try.prog.godebug = none := by kernel_rfl
theorem laidOut : laidOutB Try.prog = true := by kernel_rfl
theorem readable : ∀ t ∈ Try.f4.params.toList, Try.prog.readableRec t = true ∧ t < Try.prog.types.size := by
  rw [show Try.f4.params = #[3, 3, 3, 22] from Try.params4]
  intro t h
  simp only [List.mem_cons, List.not_mem_nil, or_false] at h
  rcases h with rfl | rfl | rfl | rfl
  · exact ⟨by kernel_rfl, of_decide_eq_true (by kernel_rfl)⟩
  · exact ⟨by kernel_rfl, of_decide_eq_true (by kernel_rfl)⟩
  · exact ⟨by kernel_rfl, of_decide_eq_true (by kernel_rfl)⟩
  · exact ⟨by kernel_rfl, of_decide_eq_true (by kernel_rfl)⟩
set_option maxRecDepth 100000 in
theorem lifted (os : Os) (started : os.Started) (H : Type) (enc : TypeId × Value → H) :
    ReturnsInHanded {} Try.checked os 4 .any (Rows.needSumsSpec.pre6 enc Try.prog Try.f4 Rows.needSumsRow.domain false) (Rows.needSumsSpec.post enc Try.prog Try.f4 false true false false) := by
  refine K.law_lift (C := Try.checked) (b := 4) own started (by kernel_rfl) Try.func4
    (ChangeSpec.witness6 (enc := enc) (C := Try.checked) false ⟨#[], #[.int .i64 0, .int .i64 0, .int .i64 0, .slice none 0 0], []⟩ 8 (by kernel_rfl) (by kernel_rfl) (by kernel_rfl) (by kernel_rfl)) laidOut readable rfl rfl Try.underlying4 ?_ ?_
  · intro ds hds
    rw [show Try.f4.params = #[3, 3, 3, 22] from Try.params4] at hds
    match ds, hds with
    | [d0, d1, d2, d3], _ => rfl
  · intro W base args ds p hval hA hlt hsz
    rw [show Try.checked.prog = Try.prog from rfl] at hval hA hsz
    rw [show Try.f4.params = #[3, 3, 3, 22] from Try.params4] at hA hval hsz
    obtain ⟨v0, vs0, d0, ds0, p0, q0, hargs, rfl, rfl, h0, r0⟩ := trodAll_cons hA
    obtain ⟨v1, vs1, d1, ds1, p1, q1, rfl, rfl, rfl, h1, r1⟩ := trodAll_cons r0
    obtain ⟨v2, vs2, d2, ds2, p2, q2, rfl, rfl, rfl, h2, r2⟩ := trodAll_cons r1
    obtain ⟨v3, vs3, d3, ds3, p3, q3, rfl, rfl, rfl, h3, r3⟩ := trodAll_cons r2
    obtain ⟨rfl, rfl, rfl⟩ := trodAll_nil r3
    obtain rfl : args = #[v0, v1, v2, v3] := by cases args; simp_all
    exact contract W (hval 0 3 v0 rfl rfl) h0 (hval 1 3 v1 rfl rfl) h1 (hval 2 3 v2 rfl rfl) h2 (hval 3 22 v3 rfl rfl) h3 (fun x hx => hlt x hx) hsz

theorem over : Rows.needSumsRow.holds Try.pinned (OpenSpec.ofChange Rows.needSumsSpec) :=
  OpenClaim.holds_of_wide 4 Try.f4 rfl rfl rfl rfl rfl rfl rfl ⟨rfl, rfl, rfl, rfl, rfl⟩ rfl rfl rfl rfl rfl (by kernel_rfl) Try.func4 (by kernel_rfl)
    (of_decide_eq_true (by kernel_rfl)) (by unfold Func.isWrapper; rw [if_neg (of_decide_eq_false (by kernel_rfl))]; exact ⟨rfl, rfl⟩)
    (fun os started H enc _ => lifted os started H enc)

/-- THE STATEMENT -/
theorem proved : Rows.NeedSumsSaid := over
#print axioms proved
end Go.Proofs.Ytofinjkgbbdbcaa.NeedSums
