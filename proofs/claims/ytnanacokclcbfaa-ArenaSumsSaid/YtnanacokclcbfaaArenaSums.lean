/- The law ArenaSums returns true for every input: Used and Left are sums, a Take fails just if it needs more than is left, words stay. -/
import Derived.Test.YtnanacokclcbfaaStepT
import Derived.Test.YtnanacokclcbfaaArenaKnown
import Derived.Test.YtnanacokclcbfaaOpenTrips
namespace Go.Proofs.Ytnanacokclcbfaa.ArenaSums
open Go.RowKit K Ar
open Go.ChangeShapes Go.WideShapes Go.ChangeAt
set_option linter.unusedVariables false
set_option linter.unusedSimpArgs false

def StepsR (w : World) (B : Nat) (A : Option Addr) (n : Nat) : Prop := ∀ i, i < n → ∃ (b o : Nat) (kd wh sz : Int), A = some ⟨b, o, none⟩ ∧ b < B ∧ w.cell? ⟨b, o + i * 3, none⟩ = some (.int .i64 kd) ∧ w.cell? ⟨b, o + i * 3 + 1, none⟩ = some (.int .i64 wh) ∧ w.cell? ⟨b, o + i * 3 + 2, none⟩ = some (.int .i64 sz) ∧ (Lit.int .i64 kd).wf = true ∧ (Lit.int .i64 wh).wf = true ∧ (Lit.int .i64 sz).wf = true
theorem sumOf_take {H : Held} {j : Nat} {p : Int × List Int} (h : H[j]? = some p) : sumOf (H.take (j + 1)) = sumOf (H.take j) + rnd p.2.length := by
  obtain ⟨hl, he⟩ := List.getElem?_eq_some_iff.1 h
  rw [List.take_add_one, h, sumOf_append]
  simp [sumOf]
theorem sumOf_take_le (H : Held) (j : Nat) : sumOf (H.take j) ≤ sumOf H := by
  have h := sumOf_append (H.take j) (H.drop j)
  rw [List.take_append_drop] at h
  omega
set_option maxRecDepth 100000 in
set_option maxHeartbeats 16000000 in
theorem walk (A : Option Addr) (c nx : Nat) (words : Int) (w : World) (hx : StepsR w w.heap.size A nx) (hlc : nx ≤ maxLen) (hwf : (Lit.int .i64 words).wf = true) :
    Calls Try.prog 8 #[.int .i64 words, .slice A nx c] w fun e w' => e = .returned (.bool true) ∧ Below w.heap.size w w' := by
  unfold maxLen at hlc
  have HX := Lib.hid hx
  clear hx
  by_cases hq1 : words < 1
  · clear hwf
    go_enter Try.func8, Try.ntmps8
    go_wp2_with fail
    refine (ArenaKnown.walk w).mono ?_
    rintro e w0 ⟨rfl, hb⟩
    go_wp2_with fail
    go_ret
    exact ⟨ret1_b rfl, hb⟩
  by_cases hq2 : 2000 < words
  · clear hwf
    go_enter Try.func8, Try.ntmps8
    go_wp2_with fail
    refine (ArenaKnown.walk w).mono ?_
    rintro e w0 ⟨rfl, hb⟩
    go_wp2_with fail
    go_ret
    exact ⟨ret1_b rfl, hb⟩
  obtain ⟨q, rfl⟩ : ∃ q : Nat, words = (q : Int) := ⟨words.toNat, by omega⟩
  have q1 : 1 ≤ q := by omega
  have q2 : q ≤ 2000 := by omega
  clear hq1 hq2 hwf
  by_cases h60 : 60 < nx
  · go_enter Try.func8, Try.ntmps8
    go_wp2_with fail
    refine (ArenaKnown.walk w).mono ?_
    rintro e w0 ⟨rfl, hb⟩
    go_wp2_with fail
    go_ret
    exact ⟨ret1_b rfl, hb⟩
  have hnx : nx ≤ 60 := by omega
  have HN1 := Lib.hid (fun w => new_yes q q1 (by omega) w)
  clear h60 hlc
  go_enter Try.func8, Try.ntmps8
  go_wp2_with fail
  refine (ArenaKnown.walk w).mono ?_
  rintro e w0 ⟨rfl, hb⟩
  have HB0 := Lib.hid hb
  clear hb
  go_wp2_with fail
  refine (HN1.out _).mono ?_
  rintro e w1 ⟨g, rfl, h1, b1⟩
  have HS0 := Lib.hid (SS.start h1 b1)
  clear h1 b1 HN1
  go_wp2_with fail
  go_loopw [8, 9] (fun s i wr => ∃ (k m c8 : Nat) (A8 : Option Addr) (B : Bks) (G : Nat → Prop), k ≤ nx ∧ i = .int .i64 (k : Int) ∧ s = .slice A8 m c8 ∧ SS w0 wr g q k B G (.slice A8 m c8) (ents 1 B)) (fun _ i _ => nx - (intOf i).toNat)
  case atStart => exact ⟨0, 0, 0, none, [], _, Nat.zero_le _, rfl, rfl, HS0.out⟩
  case round =>
    obtain ⟨k, m, c8, A8, B, G, hk, rfl, rfl, hS⟩ := hrel
    clear HS0
    by_cases hlt : k < nx
    · obtain ⟨b, o, kd, wh, sz, rfl, hbw, c0, c1, c2, f0, f1, f2⟩ := HX.out k hlt
      have hbb := HB0.out.trans (hS.below.mono HB0.out.size)
      have e0 := (hbb.cell (p := ⟨b, o + k * 3, none⟩) hbw).trans c0
      have e1 := (hbb.cell (p := ⟨b, o + k * 3 + 1, none⟩) hbw).trans c1
      have e2 := (hbb.cell (p := ⟨b, o + k * 3 + 2, none⟩) hbw).trans c2
      have hmk : m ≤ k := by
        have h := hS.reads.1
        have := ents_length 1 B
        have := ksFrom_length 1 B
        have := hS.ok.2.2.2
        omega
      have HST := Lib.hid (step_any kd wh sz w0 wr g q k m c8 B G A8 hS (by omega) (by omega) f0 f1 f2)
      have hk0 : (0 : Int) ≤ (k : Int) := by omega
      have hkn : (k : Int) < (nx : Int) := by omega
      clear c0 c1 c2 hbb hS f0 f1 f2 hbw
      go_wp2_with fail
      refine HST.out.mono ?_
      rintro e w3 ⟨A2, m2, d2, B2, G2, rfl, hS2⟩
      have HS2 := Lib.hid hS2
      obtain ⟨us, hus⟩ : ∃ x, used B2 = x := ⟨_, rfl⟩
      have hus2 : us ≤ 2000 := by have := hS2.ok.2.1; omega
      have hm2 : m2 ≤ 61 := by
        have h := hS2.reads.1
        have := ents_length 1 B2
        have := ksFrom_length 1 B2
        have := hS2.ok.2.2.2
        omega
      have HUS := Lib.hid hus
      have HML := Lib.hid hS2.reads.1
      clear hS2 HST e0 e1 e2 hus
      go_wp2_with fail
      go_loopw [11, 12, 13] (fun f s i wr2 => ∃ (j : Nat), j ≤ m2 ∧ i = .int .i64 (j : Int) ∧ f = .bool true ∧ s = .int .i64 (sumOf ((ents 1 B2).take j) : Int) ∧ Below w3.heap.size w3 wr2) (fun _ _ i _ => m2 - (intOf i).toNat)
      case atStart => exact ⟨0, Nat.zero_le _, rfl, rfl, rfl, Below.refl _ _⟩
      case round =>
        obtain ⟨j, hj, rfl, rfl, rfl, hb2⟩ := hrel
        have HB2 := Lib.hid hb2
        have hsb := sumOf_take_le (ents 1 B2) j
        rw [ents_sum, HUS.out] at hsb
        obtain ⟨sj, hsj⟩ : ∃ x, sumOf ((ents 1 B2).take j) = x := ⟨_, rfl⟩
        have HSJ := Lib.hid hsj
        rw [hsj] at hsb ⊢
        clear hsj hb2
        have HS3 := Lib.hid (HS2.out.later HB2.out)
        by_cases hltj : j < m2
        · obtain ⟨p, hp⟩ : ∃ p, (ents 1 B2)[j]? = some p := ⟨_, List.getElem?_eq_getElem (by have := HML.out; omega)⟩
          obtain ⟨b4, c4, A4, d4, hv, _, _, _, hbl, z0, z1, hrd⟩ := HS3.out.at_ hp
          injection hv with hv1 hvm hv2
          subst hv1 hv2
          clear hvm
          obtain ⟨g1, g2⟩ := ents_get hp
          obtain ⟨hpb, hp1, hp2, _⟩ := ents_bAt hp
          obtain ⟨l1, l2⟩ := HS3.out.ok.1.at_ hpb
          have hst := sumOf_take hp
          rw [HSJ.out] at hst
          have hsb2 := sumOf_take_le (ents 1 B2) (j + 1)
          rw [ents_sum, HUS.out] at hsb2
          have HG := Lib.hid (show Calls Try.prog 18 #[.pointer (some ⟨g, 0, none⟩), .int .i64 p.1] wr (GtPost wr 0 p.2) from by
            obtain ⟨F, hA, _⟩ := HS3.out.arena
            have h := get_any g q (k + 1) B2 p.1 wr F hA (wf_of hp1 (by have := HS3.out.ok.2.2.2; omega))
            rw [g1, g2] at h
            exact h)
          have HRO := Lib.hid (fun w => round_nat p.2.length l1 l2 w)
          obtain ⟨r, hr⟩ : ∃ r, rnd p.2.length = r := ⟨_, rfl⟩
          rw [hr] at HRO hst
          obtain ⟨pn, hpn⟩ : ∃ x, p.1 = x := ⟨_, rfl⟩
          have HRD := Lib.hid hrd
          rw [hpn] at z0 HG
          have hr2 : sj + r ≤ us := by omega
          have HST := Lib.hid hst
          have hj0 : (0 : Int) ≤ (j : Int) := by omega
          have hjm : (j : Int) < (m2 : Int) := by omega
          clear hst hp hpn hr g1 g2 hpb hp1 hp2 hsb2 hrd l1
          go_wp2_with fail
          refine HG.out.mono ?_
          rintro e w5 ⟨v, rfl, ho, hb5⟩
          obtain ⟨A6, c6, rfl, _, _⟩ := ownsRow_form ho
          have y0 := (hb5.cell hbl).trans z0
          have y1 := (hb5.cell hbl).trans z1
          have HSW := Lib.hid (sameWords_yes A6 A4 c6 d4 _ _ p.2 w5 (Reads.of_own ho) (HRD.out.below hb5) (by omega))
          have HB5 := Lib.hid (HB2.out.trans (hb5.mono HB2.out.size))
          clear ho hb5 z0 z1
          go_wp2_with (first
            | (go_at_call 9; refine (HRO.out _).mono ?_; rintro e w' ⟨rfl, rfl⟩)
            | fail)
          refine HSW.out.mono ?_
          rintro e w6 ⟨rfl, d6, rfl⟩
          have HB6 := Lib.hid (show Below w3.heap.size w3 (w5.drewN d6) from ⟨HB5.out.os, HB5.out.tape, HB5.out.output, HB5.out.size, HB5.out.block⟩)
          go_wp2_with fail
          go_roundw
          case rel => exact ⟨j + 1, by omega, by go_num, rfl, by rw [HST.out]; go_num, HB6.out⟩
          case measure => simp [intOf]; omega
        · obtain rfl : j = m2 := by omega
          have hse : sj = us := by
            have h := HSJ.out
            rw [List.take_of_length_le (by have := HML.out; omega), ents_sum, HUS.out] at h
            omega
          have HU := Lib.hid (show ∀ w, Below wr.heap.size wr w → Calls Try.prog 23 #[.pointer (some ⟨g, 0, none⟩)] w fun e w' => e = .returned (.int .i64 (us : Int)) ∧ w = w' from fun w hb => by
            rw [← HUS.out]
            obtain ⟨F, hA, _⟩ := (HS3.out.later hb).arena
            exact used_any g q (k + 1) B2 w F hA)
          have HL := Lib.hid (show ∀ w, Below wr.heap.size wr w → Calls Try.prog 22 #[.pointer (some ⟨g, 0, none⟩)] w fun e w' => e = .returned (.int .i64 ((q : Int) - (us : Int))) ∧ ∃ d, w' = w.drewN d from fun w hb => by
            rw [← HUS.out]
            obtain ⟨F, hA, _⟩ := (HS3.out.later hb).arena
            exact left_any g q (k + 1) B2 w F hA)
          have HBK := Lib.hid (show ∀ w, Below wr.heap.size wr w → Calls Try.prog 17 #[.pointer (some ⟨g, 0, none⟩)] w fun e w' => ∃ A5 c5, e = .returned (.slice A5 j c5) ∧ SS w0 w' g q (k + 1) B2 G2 (.slice A2 j d2) (ents 1 B2) from fun w hb => by
            obtain ⟨F, hA, _⟩ := (HS3.out.later hb).arena
            refine (blocks_any g q (k + 1) B2 w F hA (by omega)).mono ?_
            rintro e w' ⟨v, rfl, ho, hb'⟩
            obtain ⟨A5, c5, rfl, _, _⟩ := ownsRow_form ho
            have e1 : (blks B2).length = j := by
              have h1 := HML.out
              have h2 := ents_length 1 B2
              unfold blks
              omega
            rw [e1]
            exact ⟨A5, c5, rfl, (HS3.out.later hb).later hb'⟩)
          have hwq : IntKind.i64.wrap ((q : Int) - (us : Int)) = (q : Int) - (us : Int) := IntWalk.i64_in _ (by omega)
          subst hse
          clear hsb
          go_wp2_with fail
          refine (HU.out _ (Below.refl _ _)).mono ?_
          rintro e w' ⟨rfl, rfl⟩
          go_wp2_with fail
          refine (HL.out _ (Below.refl _ _)).mono ?_
          rintro e w6 ⟨rfl, d6, rfl⟩
          go_wp2_with fail
          refine (HBK.out (wr.drewN d6) ⟨rfl, rfl, rfl, Nat.le_refl _, fun _ _ => rfl⟩).mono ?_
          rintro e w7 ⟨A5, c5, rfl, hS7⟩
          have HS7 := Lib.hid hS7
          clear hS7
          go_wp2_with fail
          exact ⟨⟨k + 1, j, d2, A2, B2, G2, by omega, by go_num, rfl, HS7.out⟩, by simp [intOf]; omega⟩
    · obtain rfl : k = nx := by omega
      have HB9 := Lib.hid (HB0.out.trans (hS.below.mono HB0.out.size))
      clear hS
      go_wp2_with fail
      go_ret
      exact ⟨ret1_b rfl, HB9.out⟩

theorem contract {H : Type} {enc : TypeId × Value → H} (W : World) {base : Nat} {r : Reach} {b : Nat} {hd : Bool} {v0 v1 : Value} {d0 d1 : DataW H} {p0 p1 : List MemPlace}
    (o0 : Value.okWide Try.prog W r b 3 v0) (h0 : DataW.Trod enc Try.prog W base (fun _ => true) hd 3 v0 d0 p0) (o1 : Value.okWide Try.prog W r b 55 v1) (h1 : DataW.Trod enc Try.prog W base (fun _ => true) hd 55 v1 d1 p1) {Q R : Prop} (_ : Q) (_ : R) :
    Calls Try.prog 8 #[v0, v1] W fun e w' => e = .returned (.bool true) ∧ Below W.heap.size W w' := by
  obtain ⟨a0, rfl, _, _, w0⟩ := open_int Try.underlying3 o0 h0
  obtain ⟨A, n, c, rfl, l1, l2, hs⟩ := open_trips_arg Try.underlying55 Try.underlying59 (by kernel_rfl) rfl rfl rfl (by kernel_rfl) (by kernel_rfl) (by kernel_rfl) o1 h1
  refine walk A c n a0 W (fun i hi => ?_) (by omega) w0
  obtain ⟨b, off, v0, v1, v2, rfl, hb, c0, c1, c2, ⟨k0, x0, t0⟩, ⟨k1, x1, t1⟩, ⟨k2, x2, t2⟩⟩ := hs i hi
  obtain ⟨kd, e0, _, f0⟩ := DataW.trod_int Try.underlying3 t0
  obtain ⟨wh, e1, _, f1⟩ := DataW.trod_int Try.underlying3 t1
  obtain ⟨sz, e2, _, f2⟩ := DataW.trod_int Try.underlying3 t2
  simp only [List.cons.injEq, and_true] at e0 e1 e2
  subst e0 e1 e2
  exact ⟨b, off, kd, wh, sz, rfl, hb, c0, c1, c2, f0, f1, f2⟩

theorem own : ownKnob Try.prog.godebug = none := by kernel_rfl
theorem laidOut : laidOutB Try.prog = true := by kernel_rfl
theorem readable : ∀ t ∈ Try.f8.params.toList, Try.prog.readableRec t = true ∧ t < Try.prog.types.size := by
  rw [show Try.f8.params = #[3, 55] from Try.params8]
  intro t h
  simp only [List.mem_cons, List.not_mem_nil, or_false] at h
  rcases h with rfl | rfl
  · exact ⟨by kernel_rfl, of_decide_eq_true (by kernel_rfl)⟩
  · exact ⟨by kernel_rfl, of_decide_eq_true (by kernel_rfl)⟩
set_option maxRecDepth 100000 in
theorem lifted (os : Os) (started : os.Started) (H : Type) (enc : TypeId × Value → H) :
    ReturnsInHanded {} Try.checked os 8 .any (Rows.arenaSumsSpec.pre6 enc Try.prog Try.f8 Rows.arenaSumsRow.domain false) (Rows.arenaSumsSpec.post enc Try.prog Try.f8 false true false false) := by
  refine K.law_lift (C := Try.checked) (b := 4) own started (by kernel_rfl) Try.func8
    (ChangeSpec.witness6 (enc := enc) (C := Try.checked) false ⟨#[], #[.int .i64 0, .slice none 0 0], []⟩ 8 (by kernel_rfl) (by kernel_rfl) (by kernel_rfl) (by kernel_rfl)) laidOut readable rfl rfl Try.underlying4 ?_ ?_
  · intro ds hds
    rw [show Try.f8.params = #[3, 55] from Try.params8] at hds
    match ds, hds with
    | [d0, d1], _ => rfl
  · intro W base args ds p hval hA hlt hsz
    rw [show Try.checked.prog = Try.prog from rfl] at hval hA hsz
    rw [show Try.f8.params = #[3, 55] from Try.params8] at hA hval hsz
    obtain ⟨v0, vs0, d0, ds0, p0, q0, hargs, rfl, rfl, h0, r0⟩ := trodAll_cons hA
    obtain ⟨v1, vs1, d1, ds1, p1, q1, rfl, rfl, rfl, h1, r1⟩ := trodAll_cons r0
    obtain ⟨rfl, rfl, rfl⟩ := trodAll_nil r1
    obtain rfl : args = #[v0, v1] := by cases args; simp_all
    exact contract W (hval 0 3 v0 rfl rfl) h0 (hval 1 55 v1 rfl rfl) h1 (fun x hx => hlt x hx) hsz

theorem over : Rows.arenaSumsRow.holds Try.pinned (OpenSpec.ofChange Rows.arenaSumsSpec) :=
  OpenClaim.holds_of_wide 8 Try.f8 rfl rfl rfl rfl rfl rfl rfl ⟨rfl, rfl, rfl, rfl, rfl⟩ rfl rfl rfl rfl rfl (by kernel_rfl) Try.func8 (by kernel_rfl)
    (of_decide_eq_true (by kernel_rfl)) (by unfold Func.isWrapper; rw [if_neg (of_decide_eq_false (by kernel_rfl))]; exact ⟨rfl, rfl⟩)
    (fun os started H enc _ => lifted os started H enc)

/-- THE STATEMENT -/
theorem proved : Rows.ArenaSumsSaid := over
#print axioms proved
end Go.Proofs.Ytnanacokclcbfaa.ArenaSums
