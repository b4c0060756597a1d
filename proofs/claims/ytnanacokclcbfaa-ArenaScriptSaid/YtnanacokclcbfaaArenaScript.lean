/- The law ArenaScript returns true for every input: what all calls answer, and what an arena has then, are the document's. -/
import Derived.Test.YtnanacokclcbfaaArAct
import Derived.Test.YtnanacokclcbfaaOpenTrips
import Derived.Test.YtnanacokclcbfaaLaw08
namespace Go.Proofs.Ytnanacokclcbfaa.ArenaScript
open Go.RowKit K Ar
open Go.ChangeShapes Go.WideShapes Go.ChangeAt
set_option linter.unusedVariables false
set_option linter.unusedSimpArgs false

def ActsR (w : World) (B : Nat) (A : Option Addr) (n : Nat) : Prop := ∀ i, i < n → ∃ (b o : Nat) (kd nd : Int) (A' : Option Addr) (c' : Nat) (ws : List Int), A = some ⟨b, o, none⟩ ∧ b < B ∧ w.cell? ⟨b, o + i * 3, none⟩ = some (.int .i64 kd) ∧ w.cell? ⟨b, o + i * 3 + 1, none⟩ = some (.int .i64 nd) ∧ w.cell? ⟨b, o + i * 3 + 2, none⟩ = some (.slice A' ws.length c') ∧ (Lit.int .i64 nd).wf = true ∧ Reads w w.heap.size 1 A' ws.length (wds ws) ∧ ws.length ≤ maxLen
theorem da_start {w w1 w2 : World} {g h all : Nat} (h1 : AR w1 (fun k => w.heap.size ≤ k ∧ k < w1.heap.size) g all 0 []) (b1 : Below w.heap.size w w1) (h2 : RAr w2 (fun k => w1.heap.size ≤ k ∧ k < w2.heap.size) h all []) (b2 : Below w1.heap.size w1 w2) :
    DA (· < w.heap.size) w g all 0 h [] [] w2 := by
  have hs := b1.size
  exact ⟨Keep.of_below (b1.trans (b2.mono hs)) (fun i hi h => by omega), fun k hk => hk, _, _, h1.keep (G := fun _ => False) (Keep.new b2) (fun _ _ h => h), h2, fun k hk => by have := hk.1; omega, fun k hk => by have := hk.1; omega, fun k hk hx => by have := hk.2; have := hx.1; omega⟩
set_option maxRecDepth 100000 in
set_option maxHeartbeats 16000000 in
theorem walk (A : Option Addr) (c nx : Nat) (words : Int) (w : World) (hx : ActsR w w.heap.size A nx) (hlc : nx ≤ maxLen) (hwf : (Lit.int .i64 words).wf = true) :
    Calls Try.prog 6 #[.int .i64 words, .slice A nx c] w fun e w' => e = .returned (.bool true) ∧ Below w.heap.size w w' := by
  by_cases h60 : 40 < nx
  · unfold maxLen at hlc
    have hb := Below.refl w.heap.size w
    go_enter Try.func6, Try.ntmps6
    go_wp2_with fail
    go_ret
    exact ⟨ret1_b rfl, hb⟩
  have h60' : nx ≤ 40 := by omega
  clear h60 hlc
  have HX := Lib.hid hx
  clear hx
  by_cases hq : 1 ≤ words ∧ words ≤ 16777216
  · obtain ⟨q, rfl⟩ : ∃ q : Nat, words = (q : Int) := ⟨words.toNat, by omega⟩
    have hq1 : 1 ≤ q := by omega
    have hq2 : q ≤ 16777216 := by omega
    have HN1 := Lib.hid (fun w => new_yes q hq1 hq2 w)
    have HN2 := Lib.hid (fun w => rnew_yes q hq1 hq2 w)
    clear hwf hq
    go_enter Try.func6, Try.ntmps6
    go_wp2_with fail
    refine (HN1.out _).mono ?_
    rintro e w1 ⟨g, rfl, h1, b1⟩
    have H1 := Lib.hid h1; have B1 := Lib.hid b1
    clear h1 b1
    go_wp2_with fail
    refine (HN2.out _).mono ?_
    rintro e w2 ⟨h, rfl, h2, b2⟩
    have HD0 := Lib.hid (da_start H1.out B1.out h2 b2)
    clear h2 b2 H1 B1 HN1 HN2
    go_wp2_with fail
    go_loopw [9] (fun i wr => ∃ (k : Nat) (B : Bks), k ≤ nx ∧ i = .int .i64 (k : Int) ∧ DA (· < w.heap.size) w g q k h B B wr) (fun i _ => nx - (intOf i).toNat)
    case atStart => exact ⟨0, _, Nat.zero_le _, rfl, HD0.out⟩
    case round =>
      obtain ⟨k, B, hk, rfl, hD⟩ := hrel
      have HD := Lib.hid hD
      clear HD0 hD
      by_cases hlt : k < nx
      · obtain ⟨b, o, kd, nd, A', c', ws, rfl, hbw, c0, c1, c2, f1, hr, hm⟩ := HX.out k hlt
        have e0 := (HD.out.cell (p := ⟨b, o + k * 3, none⟩) hbw).trans c0
        have e1 := (HD.out.cell (p := ⟨b, o + k * 3 + 1, none⟩) hbw).trans c1
        have e2 := (HD.out.cell (p := ⟨b, o + k * 3 + 2, none⟩) hbw).trans c2
        have HB := Lib.hid (HD.out.below (Nat.le_refl _))
        have hk0 : (0 : Int) ≤ (k : Int) := by omega
        have hkn : (k : Int) < (nx : Int) := by omega
        unfold maxLen at hm
        by_cases h100 : 100 < ws.length
        · have d100 : (100 : Int) < (ws.length : Int) := by omega
          clear c0 c1 c2 f1 hr hbw
          go_wp2_with fail
          go_ret
          exact ⟨ret1_b rfl, HB.out⟩
        · have hl : ws.length ≤ 100 := by omega
          have HAct := Lib.hid (act_any _ _ g q k h B kd nd A' c' ws wr HD.out (by omega) hl (fun wx hkx => (hr.below (Keep.to_below hkx (Nat.le_refl _) (fun i _ hi => Nat.le_of_not_lt hi))).more hkx.size) f1)
          clear c0 c1 c2 f1 hr hbw hl
          go_wp2_with fail
          refine HAct.out.mono ?_
          rintro e w3 ⟨rfl, B2, hD2⟩
          have HD2 := Lib.hid hD2
          clear hD2
          go_wp2_with fail
          go_roundw
          case rel => exact ⟨k + 1, B2, by omega, by go_num, HD2.out⟩
          case measure => simp [intOf]; omega
      · obtain rfl : k = nx := by omega
        have HB4 := Lib.hid (HD.out.below (Nat.le_refl _))
        go_wp2_with fail
        refine (awake_any wr).mono ?_
        rintro e w5 ⟨rfl, hb5⟩
        have HB5 := Lib.hid (HB4.out.trans (hb5.mono HB4.out.size))
        clear hb5
        go_wp2_with fail
        go_ret
        exact ⟨ret1_b rfl, HB5.out⟩
  · have hno : words < 1 ∨ 16777216 < words := by omega
    have HN1 := Lib.hid (fun w => new_no words hwf hno w)
    have HN2 := Lib.hid (fun w => rnew_no words hwf hno w)
    clear hwf hq hno
    go_enter Try.func6, Try.ntmps6
    go_wp2_with fail
    refine (HN1.out _).mono ?_
    rintro e w1 ⟨rfl, rfl⟩
    go_wp2_with fail
    refine (HN2.out _).mono ?_
    rintro e w1 ⟨rfl, rfl⟩
    go_wp2_with fail
    refine (awake_any w).mono ?_
    rintro e w5 ⟨rfl, hb5⟩
    have HB5 := Lib.hid hb5
    clear hb5
    go_wp2_with fail
    go_ret
    exact ⟨ret1_b rfl, HB5.out⟩

theorem contract {H : Type} {enc : TypeId × Value → H} (W : World) {base : Nat} {r : Reach} {b : Nat} {hd : Bool} {v0 v1 : Value} {d0 d1 : DataW H} {p0 p1 : List MemPlace}
    (o0 : Value.okWide Try.prog W r b 3 v0) (h0 : DataW.Trod enc Try.prog W base (fun _ => true) hd 3 v0 d0 p0) (o1 : Value.okWide Try.prog W r b 41 v1) (h1 : DataW.Trod enc Try.prog W base (fun _ => true) hd 41 v1 d1 p1) {Q R : Prop} (_ : Q) (_ : R) :
    Calls Try.prog 6 #[v0, v1] W fun e w' => e = .returned (.bool true) ∧ Below W.heap.size W w' := by
  obtain ⟨a0, rfl, _, _, w0⟩ := open_int Try.underlying3 o0 h0
  obtain ⟨A, n, c, rfl, l1, l2, hs⟩ := open_trips_arg Try.underlying41 Try.underlying46 (by kernel_rfl) rfl rfl rfl (by kernel_rfl) (by kernel_rfl) (by kernel_rfl) o1 h1
  refine walk A c n a0 W (fun i hi => ?_) (by omega) w0
  obtain ⟨b, off, v0, v1, v2, rfl, hb, c0, c1, c2, ⟨k0, x0, t0⟩, ⟨k1, x1, t1⟩, ⟨k2, x2, t2⟩⟩ := hs i hi
  obtain ⟨kd, e0, _, f0⟩ := DataW.trod_int Try.underlying3 t0
  obtain ⟨nd, e1, _, f1⟩ := DataW.trod_int Try.underlying3 t1
  obtain ⟨A2, c2', ws, rfl, hr, _, hl, hm, _⟩ := open_ints_in Try.underlying32 Try.underlying68 (by kernel_rfl) t2
  simp only [List.cons.injEq, and_true] at e0 e1
  subst e0 e1
  exact ⟨b, off, kd, nd, A2, c2', ws, rfl, hb, c0, c1, c2, f1, hr, by omega⟩

theorem own : ownKnob Try.prog.godebug = none := by kernel_rfl
theorem laidOut : laidOutB Try.prog = true := by kernel_rfl
theorem readable : ∀ t ∈ Try.f6.params.toList, Try.prog.readableRec t = true ∧ t < Try.prog.types.size := by
  rw [show Try.f6.params = #[3, 41] from Try.params6]
  intro t h
  simp only [List.mem_cons, List.not_mem_nil, or_false] at h
  rcases h with rfl | rfl
  · exact ⟨by kernel_rfl, of_decide_eq_true (by kernel_rfl)⟩
  · exact ⟨by kernel_rfl, of_decide_eq_true (by kernel_rfl)⟩
set_option maxRecDepth 100000 in
theorem lifted (os : Os) (started : os.Started) (H : Type) (enc : TypeId × Value → H) :
    ReturnsInHanded {} Try.checked os 6 .any (Rows.arenaScriptSpec.pre6 enc Try.prog Try.f6 Rows.arenaScriptRow.domain false) (Rows.arenaScriptSpec.post enc Try.prog Try.f6 false true false false) := by
  refine K.law_lift (C := Try.checked) (b := 4) own started (by kernel_rfl) Try.func6
    (ChangeSpec.witness6 (enc := enc) (C := Try.checked) false ⟨#[], #[.int .i64 0, .slice none 0 0], []⟩ 8 (by kernel_rfl) (by kernel_rfl) (by kernel_rfl) (by kernel_rfl)) laidOut readable rfl rfl Try.underlying4 ?_ ?_
  · intro ds hds
    rw [show Try.f6.params = #[3, 41] from Try.params6] at hds
    match ds, hds with
    | [d0, d1], _ => rfl
  · intro W base args ds p hval hA hlt hsz
    rw [show Try.checked.prog = Try.prog from rfl] at hval hA hsz
    rw [show Try.f6.params = #[3, 41] from Try.params6] at hA hval hsz
    obtain ⟨v0, vs0, d0, ds0, p0, q0, hargs, rfl, rfl, h0, r0⟩ := trodAll_cons hA
    obtain ⟨v1, vs1, d1, ds1, p1, q1, rfl, rfl, rfl, h1, r1⟩ := trodAll_cons r0
    obtain ⟨rfl, rfl, rfl⟩ := trodAll_nil r1
    obtain rfl : args = #[v0, v1] := by cases args; simp_all
    exact contract W (hval 0 3 v0 rfl rfl) h0 (hval 1 41 v1 rfl rfl) h1 (fun x hx => hlt x hx) hsz

theorem over : Rows.arenaScriptRow.holds Try.pinned (OpenSpec.ofChange Rows.arenaScriptSpec) :=
  OpenClaim.holds_of_wide 6 Try.f6 rfl rfl rfl rfl rfl rfl rfl ⟨rfl, rfl, rfl, rfl, rfl⟩ rfl rfl rfl rfl rfl (by kernel_rfl) Try.func6 (by kernel_rfl)
    (of_decide_eq_true (by kernel_rfl)) (by unfold Func.isWrapper; rw [if_neg (of_decide_eq_false (by kernel_rfl))]; exact ⟨rfl, rfl⟩)
    (fun os started H enc _ => lifted os started H enc)

/-- THE STATEMENT -/
theorem proved : Rows.ArenaScriptSaid := over
#print axioms proved
end Go.Proofs.Ytnanacokclcbfaa.ArenaScript
