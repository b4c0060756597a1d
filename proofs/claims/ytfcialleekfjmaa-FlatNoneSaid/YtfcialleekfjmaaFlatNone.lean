/- The law FlatNone returns true for every input: a table of atoms that is nil, or that nobody made, is answered with ErrNil. -/
import Derived.Test.YtfcialleekfjmaaFlNo
import Derived.Test.YtfcialleekfjmaaFlAwake
import Derived.Test.YtfcialleekfjmaaTmBig
import Derived.Test.YtfcialleekfjmaaOpen
import Derived.Test.YtfcialleekfjmaaOpenTm
namespace Go.Proofs.Ytfcialleekfjmaa.FlatNone
open Go.RowKit K At Fl
open Go.ChangeShapes Go.WideShapes Go.ChangeAt
set_option linter.unusedVariables false
set_option linter.unusedSimpArgs false

def box : Array Value := #[.map none, .slice none 0 0, .int .i64 0]
def two (g : Nat) : Array Value := #[.pointer none, .pointer (some ⟨g, 0, none⟩)]
/-- The three blocks of the walk. -/
def Cl (w : World) (k n : Int) (s : ByteArray) (A : Option Addr) (m c : Nat) (wr : World) : Prop :=
  Blk wr w.heap.size 24 #[.int .i64 k, .int .i64 n, .string s, .slice A m c] ∧ Blk wr (w.heap.size + 1) 30 box ∧ Blk wr (w.heap.size + 1 + 1) 26 (two (w.heap.size + 1)) ∧ Below w.heap.size w wr
theorem Cl.later {w w1 w2 : World} {k n : Int} {s : ByteArray} {A : Option Addr} {m c : Nat} (h : Cl w k n s A m c w1) (hb : Below w1.heap.size w1 w2) : Cl w k n s A m c w2 :=
  ⟨h.1.below hb h.1.lt, h.2.1.below hb h.2.1.lt, h.2.2.1.below hb h.2.2.1.lt, fbelow h.2.2.2 hb⟩
theorem Cl.ptr {w wr : World} {k n : Int} {s : ByteArray} {A : Option Addr} {m c : Nat} (h : Cl w k n s A m c wr) {i : Nat} (hi : i < 2) : ∃ p, wr.cell? ⟨w.heap.size + 1 + 1, i, none⟩ = some (.pointer p) ∧ NoTab wr p := by
  have h0 : wr.cell? ⟨w.heap.size + 1, 0, none⟩ = some (.map none) := by rw [h.2.1.cell]; rfl
  rcases (by omega : i = 0 ∨ i = 1) with rfl | rfl
  · exact ⟨none, by rw [h.2.2.1.cell]; rfl, .inl rfl⟩
  · exact ⟨_, by rw [h.2.2.1.cell]; rfl, .inr ⟨_, rfl, h0⟩⟩
set_option maxRecDepth 100000 in
set_option maxHeartbeats 16000000 in
theorem walk (t : Tm) (vt : Value) (Al : Option Addr) (l : List Int) (cl : Nat) (w : World) (ht : TA w t vt) (hll : l.length ≤ cl) (hcl : cl ≤ maxLen) :
    Calls Try.prog 3 #[vt, .slice Al l.length cl] w fun e w' => e = .returned (.bool true) ∧ Below w.heap.size w w' := by
  have ht0 := ht
  obtain ⟨k, n, s, tl, A, c, hte, rfl, ok, _⟩ := ht.open_
  obtain ⟨m, hm⟩ : ∃ m, tl.length = m := ⟨_, rfl⟩
  rw [hm] at ht0 ⊢
  have hlm : l.length ≤ 9223372036854775807 := by unfold maxLen at hcl; omega
  have HT := Lib.hid ht0
  have HI0 := Lib.hid (show Cl w k n s A m c (((w.alloc (.cells #[.int .i64 k, .int .i64 n, .string s, .slice A m c] 24)).alloc (.cells #[.map none, .slice none 0 0, .int .i64 0] 30)).alloc (.cells #[.pointer none, .pointer (some ⟨w.heap.size + 1, 0, none⟩)] 26)) from by
    have g1 := Blk.new (w.alloc (.cells #[.int .i64 k, .int .i64 n, .string s, .slice A m c] 24)) 30 box
    have g2 := Blk.new ((w.alloc (.cells #[.int .i64 k, .int .i64 n, .string s, .slice A m c] 24)).alloc (.cells #[.map none, .slice none 0 0, .int .i64 0] 30)) 26 (two (w.heap.size + 1))
    simp only [World.size_alloc] at g1 g2
    exact ⟨((Blk.new _ _ _).alloc _).alloc _, g1.alloc _, g2, ballocs (ballocs (ballocs (Below.refl _ _) _) _) _⟩)
  have HLT := Lib.hid (fun (wr : World) (h : TA wr t (.agg #[.int .i64 k, .int .i64 n, .string s, .slice A m c])) => largeTerm_any t 100 _ wr (by decide) h)
  have HFL := Lib.hid (fun p wr (h : NoTab wr p) => flatten_no p k n s A m c wr h)
  have HRD := Lib.hid (fun p wr (h : NoTab wr p) => read_no p Al l.length cl wr h)
  have HPA := Lib.hid (fun p wr (h : NoTab wr p) => part_no p Al l.length cl 1 wr h)
  clear ht ht0 ok hte hm hll hcl
  obtain ⟨N, hN⟩ : ∃ N, l.length = N := ⟨_, rfl⟩
  rw [hN] at hlm HRD HPA ⊢
  clear hN
  go_enter Try.func3, Try.ntmps3
  go_wp2_with fail
  go_loopw [6] (fun x wr => ∃ i : Nat, i ≤ 2 ∧ x = .int .i64 (i : Int) ∧ Cl w k n s A m c wr) (fun x _ => 2 - (intOf x).toNat)
  case atStart => exact ⟨0, by omega, rfl, HI0.out⟩
  case round =>
    obtain ⟨i, hi, rfl, hc⟩ := hrel
    clear HI0
    have HC := Lib.hid hc
    have HTr := Lib.hid (HT.out.later hc.2.2.2)
    obtain ⟨t0, t1, t2, t3, _, _, _, _⟩ := hc.1.four
    by_cases hi2 : i < 2
    · by_cases h100 : N ≤ 100
      · have b1 : decide ((i : Int) < 2) = true := decide_eq_true (by omega)
        have b2 : decide ((N : Int) ≤ 100) = true := decide_eq_true (by omega)
        obtain ⟨p, hp, hno⟩ := hc.ptr hi2
        have hi0 : (0 : Int) ≤ (i : Int) := by omega
        have hi22 : (i : Int) < 2 := by omega
        have HNO := Lib.hid hno
        clear hc hno
        go_wp2_with fail
        refine (HLT.out _ HTr.out).mono ?_
        rintro e w1 ⟨rfl, hb1⟩
        have HC1 := Lib.hid (HC.out.later hb1); have HNO1 := Lib.hid (NoTab.later HNO.out hb1)
        have hp1 : w1.cell? ⟨w.heap.size + 1 + 1, i, none⟩ = some (.pointer p) := (hb1.cell (p := ⟨w.heap.size + 1 + 1, i, none⟩) HC.out.2.2.1.lt).trans hp
        obtain ⟨u0, u1, u2, u3, _, _, _, _⟩ := HC1.out.1.four
        clear hb1 hp t0 t1 t2 t3
        cases hlg : largeT t 100 with
        | true =>
          go_wp2_with fail
          refine (awake_any _).mono ?_
          rintro e w3 ⟨rfl, hb3⟩
          have HB3 := Lib.hid (HC1.out.later hb3).2.2.2
          clear hb3
          go_wp2_with fail
          go_ret
          exact ⟨ret1_b rfl, HB3.out⟩
        | false =>
          clear hlg
          go_wp2_with fail
          go_region_with (go_at_call 9; refine (HFL.out p w1.drew HNO1.out).mono ?_; rintro e w2 ⟨rfl, hb2⟩; have HB2 := Lib.hid (show Below w1.heap.size w1 w2 from ⟨hb2.os, hb2.tape, hb2.output, hb2.size, hb2.block⟩); clear hb2)
          all_goals
            have HC2 := Lib.hid (HC1.out.later HB2.out); have HNO2 := Lib.hid (NoTab.later HNO1.out HB2.out)
            have hp2 : w2.cell? ⟨w.heap.size + 1 + 1, i, none⟩ = some (.pointer p) := (HB2.out.cell (p := ⟨w.heap.size + 1 + 1, i, none⟩) HC1.out.2.2.1.lt).trans hp1
            clear hp1 u0 u1 u2 u3
            go_wp2_with fail
            rename_i K1 hK1 K2 hK2
            have HKK := Lib.hid hK1
            clear hK1
            refine (HRD.out p _ HNO2.out).mono ?_
            rintro e w3 ⟨rfl, hb3⟩
            have HB3 := Lib.hid hb3
            clear hb3
            go_wp2_with fail
            refine HKK.out _ _ ?_
            have hz4 := Blk.new w3 24 tz
            have hb4 := ballocs (Below.refl w3.heap.size w3) (.cells tz 24)
            obtain ⟨w4, hw4⟩ : ∃ x, w3.alloc (.cells #[.int .i64 0, .int .i64 0, .string ⟨#[]⟩, .slice none 0 0] 24) = x := ⟨_, rfl⟩
            rw [hw4] at hz4 hb4 ⊢
            obtain ⟨g8, hg8⟩ : ∃ g8, w3.heap.size = g8 := ⟨_, rfl⟩
            rw [hg8] at hz4 ⊢
            have hb24 := fbelow HB3.out hb4
            have HC4 := Lib.hid (HC2.out.later hb24); have HNO4 := Lib.hid (NoTab.later HNO2.out hb24)
            have hp4 : w4.cell? ⟨w.heap.size + 1 + 1, i, none⟩ = some (.pointer p) := (hb24.cell (p := ⟨w.heap.size + 1 + 1, i, none⟩) HC2.out.2.2.1.lt).trans hp2
            have HZ4 := Lib.hid hz4
            clear hw4 hg8 hz4 hb4 hb24 hp2
            go_wp2_with fail
            refine (HPA.out p _ HNO4.out).mono ?_
            rintro e w5 ⟨rfl, hb5⟩
            have HC5 := Lib.hid (HC4.out.later hb5)
            obtain ⟨z0, z1, z2, z3, _, _, _, _⟩ := (HZ4.out.below hb5 HZ4.out.lt).four
            clear hb5 hp4
            go_wp2_with fail
            refine (sameTerm_any (.mk 0 0 ⟨#[]⟩ []) (.mk 0 0 ⟨#[]⟩ []) _ _ w5 (leafF w5 0 0 ⟨#[]⟩ (by decide) (by decide) (by decide)) (leafF w5 0 0 ⟨#[]⟩ (by decide) (by decide) (by decide))).mono ?_
            rintro e w6 ⟨rfl, hb6⟩
            rw [eqT_self]
            have HC6 := Lib.hid (HC5.out.later hb6)
            clear hb6 z0 z1 z2 z3
            go_wp2_with fail
            exact ⟨⟨i + 1, by omega, by go_num, HC6.out⟩, by simp [intOf]; omega⟩
      · have b1 : decide ((i : Int) < 2) = true := decide_eq_true (by omega)
        have b2 : decide ((N : Int) ≤ 100) = false := decide_eq_false (by omega)
        clear hc
        go_wp2_with fail
        refine (awake_any _).mono ?_
        rintro e w3 ⟨rfl, hb3⟩
        have HB3 := Lib.hid (HC.out.later hb3).2.2.2
        clear hb3
        go_wp2_with fail
        go_ret
        exact ⟨ret1_b rfl, HB3.out⟩
    · obtain rfl : i = 2 := by omega
      clear hc
      go_wp2_with fail
      refine (awake_any _).mono ?_
      rintro e w3 ⟨rfl, hb3⟩
      have HB3 := Lib.hid (HC.out.later hb3).2.2.2
      clear hb3
      go_wp2_with fail
      go_ret
      exact ⟨ret1_b rfl, HB3.out⟩
set_option maxRecDepth 100000 in
theorem contract {H : Type} {enc : TypeId × Value → H} (W : World) {base : Nat} {r : Reach} {b : Nat} {hd : Bool} {v0 v1 : Value} {d0 d1 : DataW H} {p0 p1 : List MemPlace}
    (o0 : Value.okWide Try.prog W r b 24 v0) (h0 : DataW.Trod enc Try.prog W base (fun _ => true) hd 24 v0 d0 p0) (o1 : Value.okWide Try.prog W r b 25 v1) (h1 : DataW.Trod enc Try.prog W base (fun _ => true) hd 25 v1 d1 p1) {Q R : Prop} (_ : Q) (_ : R) :
    Calls Try.prog 3 #[v0, v1] W fun e w' => e = .returned (.bool true) ∧ Below W.heap.size W w' := by
  obtain ⟨t, ht⟩ := open_t o0 h0
  obtain ⟨A, c, l, rfl, _, _, hl, hc, _⟩ := open_ints_arg (k := .u64) Try.underlying25 Try.underlying49 (by kernel_rfl) o1 h1
  exact walk t v0 A l c W ht hl hc

theorem own : ownKnob Try.prog.godebug = none := by kernel_rfl
theorem laidOut : laidOutB Try.prog = true := by kernel_rfl
theorem readable : ∀ t ∈ Try.f3.params.toList, Try.prog.readableRec t = true ∧ t < Try.prog.types.size := by
  rw [show Try.f3.params = #[24, 25] from Try.params3]
  intro t h
  simp only [List.mem_cons, List.not_mem_nil, or_false] at h
  rcases h with rfl | rfl
  · exact ⟨by kernel_rfl, of_decide_eq_true (by kernel_rfl)⟩
  · exact ⟨by kernel_rfl, of_decide_eq_true (by kernel_rfl)⟩
set_option maxRecDepth 100000 in
theorem lifted (os : Os) (started : os.Started) (H : Type) (enc : TypeId × Value → H) :
    ReturnsInHanded {} Try.checked os 3 .any (Rows.flatNoneSpec.pre6 enc Try.prog Try.f3 Rows.flatNoneRow.domain false) (Rows.flatNoneSpec.post enc Try.prog Try.f3 false true false false) := by
  refine K.law_lift (C := Try.checked) (b := 4) own started (by kernel_rfl) Try.func3
    (ChangeSpec.witness6 (enc := enc) (C := Try.checked) false ⟨#[], #[.agg #[.int .i64 0, .int .i64 0, .string ByteArray.empty, .slice none 0 0], .slice none 0 0], []⟩ 8 (by kernel_rfl) (by kernel_rfl) (by kernel_rfl) (by kernel_rfl)) laidOut readable rfl rfl Try.underlying4 ?_ ?_
  · intro ds hds
    rw [show Try.f3.params = #[24, 25] from Try.params3] at hds
    match ds, hds with
    | [d0, d1], _ => rfl
  · intro W base args ds p hval hA hlt hsz
    rw [show Try.checked.prog = Try.prog from rfl] at hval hA hsz
    rw [show Try.f3.params = #[24, 25] from Try.params3] at hA hval hsz
    obtain ⟨v0, vs0, d0, ds0, p0, q0, hargs, rfl, rfl, h0, r0⟩ := trodAll_cons hA
    obtain ⟨v1, vs1, d1, ds1, p1, q1, rfl, rfl, rfl, h1, r1⟩ := trodAll_cons r0
    obtain ⟨rfl, rfl, rfl⟩ := trodAll_nil r1
    obtain rfl : args = #[v0, v1] := by cases args; simp_all
    exact contract W (hval 0 24 v0 rfl rfl) h0 (hval 1 25 v1 rfl rfl) h1 (fun x hx => hlt x hx) hsz

theorem over : Rows.flatNoneRow.holds Try.pinned (OpenSpec.ofChange Rows.flatNoneSpec) :=
  OpenClaim.holds_of_wide 3 Try.f3 rfl rfl rfl rfl rfl rfl rfl ⟨rfl, rfl, rfl, rfl, rfl⟩ rfl rfl rfl rfl rfl (by kernel_rfl) Try.func3 (by kernel_rfl)
    (of_decide_eq_true (by kernel_rfl)) (by unfold Func.isWrapper; rw [if_neg (of_decide_eq_false (by kernel_rfl))]; exact ⟨rfl, rfl⟩)
    (fun os started H enc _ => lifted os started H enc)

/-- THE STATEMENT -/
theorem proved : Rows.FlatNoneSaid := over
#print axioms proved
end Go.Proofs.Ytfcialleekfjmaa.FlatNone
