/- The law HashTells returns true for any term. -/
import Derived.Test.YtbpdaoedmjpdpaaOver
import Derived.Test.YtbpdaoedmjpdpaaRefBytes
import Derived.Test.YtbpdaoedmjpdpaaLaw04
import Derived.Test.YtbpdaoedmjpdpaaOpenTm
import Derived.Test.YtbpdaoedmjpdpaaSmall
import Derived.Test.YtbpdaoedmjpdpaaTmBig
import Derived.Deep.RegionHeld3
namespace Go.Proofs.Ytbpdaoedmjpdpaa.HashTells
open Go.RowKit K Hs
open Go.ChangeShapes Go.WideShapes Go.ChangeAt
set_option linter.unusedVariables false
set_option linter.unusedSimpArgs false

theorem bytes_len : ∀ t : Tm, tlong t = false → (bytesT t).length ≤ 211 * nodes t := by
  refine Tm.ind fun t ih h => ?_
  obtain ⟨k, n, s, l⟩ := t
  rw [tlong_mk, Bool.or_eq_false_iff] at h
  simp only [Tm.l_mk] at ih
  have hq : s.size ≤ 200 := by have := of_decide_eq_false h.1; omega
  have hl : (bytesL l).length ≤ 211 * nodesL l := by
    have hp : ∀ u ∈ l, tlong u = false := fun u hu => tlongL_no h.2 hu
    clear h
    induction l with
    | nil => simp [bytesL_nil, nodesL_nil]
    | cons x r ihr =>
      rw [bytesL_cons, nodesL_cons, List.length_append]
      have h1 := ih x (List.mem_cons_self ..) (hp x (List.mem_cons_self ..))
      have h2 := ihr (fun u hu => ih u (List.mem_cons_of_mem _ hu)) (fun u hu => hp u (List.mem_cons_of_mem _ hu))
      omega
  rw [bytesT_mk, nodes_mk]
  have hm : (midB k n s).length ≤ 201 := by
    unfold midB
    split
    · rw [le8_len]; omega
    · split
      · simp [strB]; exact hq
      · simp
  have hn : (lenB k l.length).length ≤ 1 := by
    unfold lenB; split <;> simp
  have hr : (if hasB (.mk k n s l) = true then bytesL l else []).length ≤ 211 * nodesL l := by
    split
    · exact hl
    · simp
  simp only [List.length_cons, List.length_append]
  omega

set_option maxRecDepth 100000 in
set_option maxHeartbeats 8000000 in
theorem walk (t : Tm) (v : Value) (w : World) (h : TA w t v) : Calls Try.prog 6 #[v] w fun e w' => e = .returned (.bool true) ∧ Below w.heap.size w w' := by
  have HTA := Lib.hid h
  obtain ⟨k0, n0, s, l, A, c, rfl, rfl, ok, hl⟩ := h.open_
  obtain ⟨w1, hw1⟩ : ∃ w1, w.alloc (.cells #[.int .i64 k0, .int .i64 n0, .string s, .slice A l.length c] 35) = w1 := ⟨_, rfl⟩
  have HR := Lib.hid (show Below w.heap.size w w1 from by rw [← hw1]; exact ballocs (Below.refl w.heap.size w) _)
  have HG := Lib.hid (show Blk w1 w.heap.size 35 #[.int .i64 k0, .int .i64 n0, .string s, .slice A l.length c] from by rw [← hw1]; exact Blk.new _ _ _)
  have HW := Lib.hid hw1
  clear h hl ok hw1
  have HLT := Lib.hid (fun t v w h => largeTerm_any t 400 v w (by omega) h)
  by_cases h1 : largeT (.mk k0 n0 s l) 400 = true
  · go_enter Try.func6, Try.ntmps6
    go_wp2_with fail
    rw [HW.out]
    refine (HLT.out _ _ _ (HTA.out.later HR.out)).mono ?_
    rintro e w2 ⟨rfl, hb2⟩
    have HB2 := Lib.hid (bnext HR.out hb2)
    rw [h1]
    clear hb2
    go_wp2_with fail
    go_ret
    exact ⟨rfl, HB2.out⟩
  · have h1' : largeT (.mk k0 n0 s l) 400 = false := by simpa using h1
    have hn : nodes (.mk k0 n0 s l) ≤ 1048576 := small_nodes h1' (by omega)
    have hn4 : nodes (.mk k0 n0 s l) ≤ 400 := small_nodes h1' (by omega)
    have hlo : tlong (.mk k0 n0 s l) = false := by unfold largeT at h1'; rw [Bool.or_eq_false_iff] at h1'; exact h1'.2
    have hbl := bytes_len _ hlo
    have hN : (bytesT (.mk k0 n0 s l)).length ≤ 1099511627776 := by omega
    have HCP := Lib.hid (fun v w h => copyTerm_any (.mk k0 n0 s l) hn v w h)
    have ea := eqT_self (.mk k0 n0 s l)
    have HBQ := Lib.hid (fun v w h => bytesQ_any (.mk k0 n0 s l) v w h hN)
    have HBR := Lib.hid (fun v w h => bytesR_any (.mk k0 n0 s l) _ rfl v w h hN)
    have HRB := Lib.hid (fun v w h => rbytesR_any (.mk k0 n0 s l) hN v w h)
    have HHa := Lib.hid (fun v w h => hash_any (.mk k0 n0 s l) v w h)
    have HRH := Lib.hid (fun v w h => rhash_any (.mk k0 n0 s l) hN v w h)
    have HSB := Lib.hid (fun B A A' c c' w h h' hA hA' => sameB_any (bytesT (.mk k0 n0 s l)) (bytesT (.mk k0 n0 s l)) B A A' c c' w h h' hA hA')
    rw [show decide (bytesT (.mk k0 n0 s l) = bytesT (.mk k0 n0 s l)) = true from decide_eq_true rfl] at HSB
    obtain ⟨bs, hbs⟩ : ∃ bs, bytesT (.mk k0 n0 s l) = bs := ⟨_, rfl⟩
    obtain ⟨hx, hhx⟩ : ∃ hx, hashT (.mk k0 n0 s l) = hx := ⟨_, rfl⟩
    rw [hbs] at HBQ HBR HRB HSB hN
    rw [hhx] at HHa HRH
    clear h1 hn hn4 hlo hbl hbs hhx
    go_enter Try.func6, Try.ntmps6
    go_wp2_with fail
    rw [HW.out]
    refine (HLT.out _ _ _ (HTA.out.later HR.out)).mono ?_
    rintro e w2 ⟨rfl, hb2⟩
    have HB2 := Lib.hid (bnext HR.out hb2)
    have HG2 := Lib.hid (HG.out.below hb2 HG.out.lt)
    rw [h1']
    clear hb2
    obtain ⟨p0, p1, p2, p3, _, _, _, _⟩ := HG2.out.four
    go_wp2_with fail
    refine (HCP.out _ _ (HTA.out.later HB2.out)).mono ?_
    rintro e w3 ⟨v3, rfl, ht3, hb3⟩
    obtain ⟨A3, c3, rfl, _⟩ := ht3.inv
    dsimp only [tv, Tm.k_mk, Tm.n_mk, Tm.s_mk, Tm.l_mk] at ht3 ⊢
    have HB3 := Lib.hid (bnext HB2.out hb3)
    have HG3 := Lib.hid (HG2.out.below hb3 HG2.out.lt)
    obtain ⟨w4, hw4⟩ : ∃ w4, w3.alloc (.cells #[.int .i64 k0, .int .i64 n0, .string s, .slice A3 l.length c3] 35) = w4 := ⟨_, rfl⟩
    have HB4 := Lib.hid (show Below w.heap.size w w4 from by rw [← hw4]; exact ballocs HB3.out _)
    have HI4 := Lib.hid (show Blk w4 w3.heap.size 35 #[.int .i64 k0, .int .i64 n0, .string s, .slice A3 l.length c3] from by rw [← hw4]; exact Blk.new _ _ _)
    have HG4 := Lib.hid (show Blk w4 w.heap.size 35 #[.int .i64 k0, .int .i64 n0, .string s, .slice A l.length c] from by rw [← hw4]; exact HG3.out.alloc _)
    have HX4 := Lib.hid (show TA w4 (.mk k0 n0 s l) (.agg #[.int .i64 k0, .int .i64 n0, .string s, .slice A3 l.length c3]) from by
      rw [← hw4]; exact (show TA w3 _ _ from ht3.mono fun b hb => hb.2).later (ballocs (Below.refl w3.heap.size w3) _))
    have HW4 := Lib.hid hw4
    clear hb3 ht3 hw4 p0 p1 p2 p3
    go_wp2_with fail
    rw [HW4.out]
    refine (HBQ.out _ _ HX4.out).mono ?_
    rintro e w5 ⟨v5, rfl, hr5, hq5, hb5⟩
    obtain ⟨A5, c5, rfl, _⟩ := ownsRow_form hr5
    have HB5 := Lib.hid (bnext HB4.out hb5)
    have HBB5 := Lib.hid hb5
    have HG5 := Lib.hid (HG4.out.below hb5 HG4.out.lt)
    have HI5 := Lib.hid (HI4.out.below hb5 HI4.out.lt)
    have HX5 := Lib.hid (HX4.out.later hb5)
    have HT5 := Lib.hid (HTA.out.later HB5.out)
    have HQ5 := Lib.hid hq5
    have HR5 := Lib.hid hr5
    have HA5 := Lib.hid (show A5 = none → bs = [] from fun hA => by
      subst hA
      rcases hr5.2 with ⟨h, hn⟩ | ⟨g, cap, cur, h, _⟩
      · exact List.eq_nil_of_length_eq_zero hn
      · cases h)
    clear hb5 hq5 hr5
    obtain ⟨p0, p1, p2, p3, _, _, _, _⟩ := HG5.out.four
    obtain ⟨s0, s1, s2, s3, _, _, _, _⟩ := HI5.out.four
    go_wp2_with fail
    have HS := Lib.hid (show ∀ wx', Below w5.heap.size w5 wx' → (Below w5.heap.size w5 wx' ∧ wx'.cell? ⟨w.heap.size, 0, none⟩ = some (.int .i64 k0) ∧ wx'.cell? ⟨w.heap.size, 1, none⟩ = some (.int .i64 n0) ∧ wx'.cell? ⟨w.heap.size, 2, none⟩ = some (.string s) ∧ wx'.cell? ⟨w.heap.size, 3, none⟩ = some (.slice A l.length c) ∧ wx'.cell? ⟨w3.heap.size, 0, none⟩ = some (.int .i64 k0) ∧ wx'.cell? ⟨w3.heap.size, 1, none⟩ = some (.int .i64 n0) ∧ wx'.cell? ⟨w3.heap.size, 2, none⟩ = some (.string s) ∧ wx'.cell? ⟨w3.heap.size, 3, none⟩ = some (.slice A3 l.length c3)) from fun wx' hb => by
      obtain ⟨p0, p1, p2, p3, _, _, _, _⟩ := (HG5.out.below hb HG5.out.lt).four
      obtain ⟨s0, s1, s2, s3, _, _, _, _⟩ := (HI5.out.below hb HI5.out.lt).four
      exact ⟨hb, p0, p1, p2, p3, s0, s1, s2, s3⟩)
    go_region_held3 (fun wx' => Below w5.heap.size w5 wx' ∧ wx'.cell? ⟨w.heap.size, 0, none⟩ = some (.int .i64 k0) ∧ wx'.cell? ⟨w.heap.size, 1, none⟩ = some (.int .i64 n0) ∧ wx'.cell? ⟨w.heap.size, 2, none⟩ = some (.string s) ∧ wx'.cell? ⟨w.heap.size, 3, none⟩ = some (.slice A l.length c) ∧ wx'.cell? ⟨w3.heap.size, 0, none⟩ = some (.int .i64 k0) ∧ wx'.cell? ⟨w3.heap.size, 1, none⟩ = some (.int .i64 n0) ∧ wx'.cell? ⟨w3.heap.size, 2, none⟩ = some (.string s) ∧ wx'.cell? ⟨w3.heap.size, 3, none⟩ = some (.slice A3 l.length c3)) (first
      | exact HS.out _ (btodrew (Below.refl _ _))
      | exact HS.out _ hbz
      | assumption) (first
      | (go_at_call 24
         have hby := And.left (by assumption)
         refine (HRB.out _ _ (HT5.out.later hby)).mono ?_
         rintro e wz ⟨A6, c6, rfl, hr6, hA6, hbz0⟩
         have HR6 := Lib.hid hr6
         have HA6 := Lib.hid hA6
         clear hr6 hA6
         have hbz := bnext hby hbz0)
      | (go_at_call 15
         have hby := And.left (by assumption)
         refine (HSB.out _ _ _ _ _ _ (Reads.of_own (ownsRow_below HR5.out hby fun r hr => (HR5.out.lt r hr).2)) HR6.out HA5.out HA6.out).mono ?_
         rintro e wz ⟨rfl, rfl⟩
         have hbz := hby)
      | (go_at_call 25
         have hby := And.left (by assumption)
         refine (HHa.out _ _ (HX5.out.later hby)).mono ?_
         rintro e wz ⟨rfl, hbz0⟩
         have hbz := bnext hby hbz0)
      | (go_at_call 26
         have hby := And.left (by assumption)
         refine (HRH.out _ _ (HT5.out.later hby)).mono ?_
         rintro e wz ⟨rfl, hbz0⟩
         have hbz := bnext hby hbz0))
    have hb6 := And.left (by assumption)
    have HB6 := Lib.hid hb6
    have hr6 := ownsRow_below HR5.out hb6 fun r hr => (HR5.out.lt r hr).2
    have hq6 := HQ5.out.below HR5.out hb6
    have HR6 := Lib.hid hr6
    have HQ6 := Lib.hid hq6
    clear hb6 hr6 hq6 p0 p1 p2 p3 s0 s1 s2 s3 HS
    go_wp2_with fail
    refine (over_any _ _ _ _ _ HR6.out HQ6.out).mono ?_
    rintro e w7 ⟨rfl, hg7⟩
    have hb7 : Below w4.heap.size w4 w7 := by
      have h1 := bnext HBB5.out HB6.out
      exact h1.grown hg7 h1.size (fun r e => (HR6.out.lt r e).1)
    have HB7 := Lib.hid (bnext HB4.out hb7)
    have HG7 := Lib.hid (HG4.out.below hb7 HG4.out.lt)
    have HI7 := Lib.hid (HI4.out.below hb7 HI4.out.lt)
    have HX7 := Lib.hid (HX4.out.later hb7)
    have HT7 := Lib.hid (HTA.out.later HB7.out)
    clear hb7 hg7
    obtain ⟨p0, p1, p2, p3, _, _, _, _⟩ := HG7.out.four
    obtain ⟨s0, s1, s2, s3, _, _, _, _⟩ := HI7.out.four
    go_wp2_with fail
    have HS := Lib.hid (show ∀ wx', Below w7.heap.size w7 wx' → (Below w7.heap.size w7 wx' ∧ wx'.cell? ⟨w.heap.size, 0, none⟩ = some (.int .i64 k0) ∧ wx'.cell? ⟨w.heap.size, 1, none⟩ = some (.int .i64 n0) ∧ wx'.cell? ⟨w.heap.size, 2, none⟩ = some (.string s) ∧ wx'.cell? ⟨w.heap.size, 3, none⟩ = some (.slice A l.length c) ∧ wx'.cell? ⟨w3.heap.size, 0, none⟩ = some (.int .i64 k0) ∧ wx'.cell? ⟨w3.heap.size, 1, none⟩ = some (.int .i64 n0) ∧ wx'.cell? ⟨w3.heap.size, 2, none⟩ = some (.string s) ∧ wx'.cell? ⟨w3.heap.size, 3, none⟩ = some (.slice A3 l.length c3)) from fun wx' hb => by
      obtain ⟨p0, p1, p2, p3, _, _, _, _⟩ := (HG7.out.below hb HG7.out.lt).four
      obtain ⟨s0, s1, s2, s3, _, _, _, _⟩ := (HI7.out.below hb HI7.out.lt).four
      exact ⟨hb, p0, p1, p2, p3, s0, s1, s2, s3⟩)
    go_region_held3 (fun wx' => Below w7.heap.size w7 wx' ∧ wx'.cell? ⟨w.heap.size, 0, none⟩ = some (.int .i64 k0) ∧ wx'.cell? ⟨w.heap.size, 1, none⟩ = some (.int .i64 n0) ∧ wx'.cell? ⟨w.heap.size, 2, none⟩ = some (.string s) ∧ wx'.cell? ⟨w.heap.size, 3, none⟩ = some (.slice A l.length c) ∧ wx'.cell? ⟨w3.heap.size, 0, none⟩ = some (.int .i64 k0) ∧ wx'.cell? ⟨w3.heap.size, 1, none⟩ = some (.int .i64 n0) ∧ wx'.cell? ⟨w3.heap.size, 2, none⟩ = some (.string s) ∧ wx'.cell? ⟨w3.heap.size, 3, none⟩ = some (.slice A3 l.length c3)) (first
      | exact HS.out _ (btodrew (Below.refl _ _))
      | exact HS.out _ hbz
      | assumption) (first
      | (go_at_call 16
         have hby := And.left (by assumption)
         refine (HBR.out _ _ (HX7.out.later hby)).mono ?_
         rintro e wz ⟨A6, c6, rfl, hr6, hA6, hbz0⟩
         have HR8 := Lib.hid hr6
         have HA8 := Lib.hid hA6
         clear hr6 hA6
         have hbz := bnext hby hbz0)
      | (go_at_call 24
         have hby := And.left (by assumption)
         refine (HRB.out _ _ (HT7.out.later hby)).mono ?_
         rintro e wz ⟨A7, c7, rfl, hr6, hA6, hbz0⟩
         have HR9 := Lib.hid (reads_later HR8.out hbz0)
         have HR10 := Lib.hid hr6
         have HA10 := Lib.hid hA6
         clear hr6 hA6
         have hbz := bnext hby hbz0)
      | (go_at_call 15
         have hby := And.left (by assumption)
         refine (HSB.out _ _ _ _ _ _ HR9.out HR10.out HA8.out HA10.out).mono ?_
         rintro e wz ⟨rfl, rfl⟩
         have hbz := hby)
      | (go_at_call 28
         have hby := And.left (by assumption)
         refine (sameTerm_any _ _ _ _ _ (HX7.out.later hby) (HT7.out.later hby)).mono ?_
         rintro e wz ⟨rfl, hbz0⟩
         rw [ea]
         have hbz := bnext hby hbz0)
      | (go_at_call 14
         have hby := And.left (by assumption)
         refine (awake_any _).mono ?_
         rintro e wz ⟨rfl, hbz0⟩
         have hbz := bnext hby hbz0))
    have hb8 := And.left (by assumption)
    have HB8 := Lib.hid (bnext HB7.out hb8)
    clear hb8 p0 p1 p2 p3 s0 s1 s2 s3 HS
    go_wp2_with fail
    go_ret
    exact ⟨rfl, HB8.out⟩

theorem contract {H : Type} {enc : TypeId × Value → H} (W : World) {base : Nat} {r : Reach} {b : Nat} {hd : Bool} {v0 : Value} {d0 : DataW H} {p0 : List MemPlace}
    (o0 : Value.okWide Try.prog W r b 35 v0) (h0 : DataW.Trod enc Try.prog W base (fun _ => true) hd 35 v0 d0 p0) {Q R : Prop} (_ : Q) (_ : R) :
    Calls Try.prog 6 #[v0] W fun e w' => e = .returned (.bool true) ∧ Below W.heap.size W w' := by
  obtain ⟨a, ha⟩ := open_t o0 h0
  exact walk a v0 W ha

theorem own : ownKnob Try.prog.godebug = none := by kernel_rfl
theorem laidOut : laidOutB Try.prog = true := by kernel_rfl
theorem readable : ∀ t ∈ Try.f6.params.toList, Try.prog.readableRec t = true ∧ t < Try.prog.types.size := by
  rw [show Try.f6.params = #[35] from Try.params6]
  intro t h
  simp only [List.mem_cons, List.not_mem_nil, or_false] at h
  subst h
  exact ⟨by kernel_rfl, of_decide_eq_true (by kernel_rfl)⟩
set_option maxRecDepth 100000 in
theorem lifted (os : Os) (started : os.Started) (H : Type) (enc : TypeId × Value → H) :
    ReturnsInHanded {} Try.checked os 6 .any (Rows.hashTellsSpec.pre6 enc Try.prog Try.f6 Rows.hashTellsRow.domain false) (Rows.hashTellsSpec.post enc Try.prog Try.f6 false true false false) := by
  refine K.law_lift (C := Try.checked) (b := 4) own started (by kernel_rfl) Try.func6
    (ChangeSpec.witness6 (enc := enc) (C := Try.checked) false ⟨#[], #[.agg #[.int .i64 0, .int .i64 0, .string .empty, .slice none 0 0]], []⟩ 8 (by kernel_rfl) (by kernel_rfl) (by kernel_rfl) (by kernel_rfl)) laidOut readable rfl rfl Try.underlying4 ?_ ?_
  · intro ds hds
    rw [show Try.f6.params = #[35] from Try.params6] at hds
    match ds, hds with
    | [d0], _ => rfl
  · intro W base args ds p hval hA hlt hsz
    rw [show Try.checked.prog = Try.prog from rfl] at hval hA hsz
    rw [show Try.f6.params = #[35] from Try.params6] at hA hval hsz
    obtain ⟨v0, vs0, d0, ds0, p0, q0, hargs, rfl, rfl, h0, r0⟩ := trodAll_cons hA
    obtain ⟨rfl, rfl, rfl⟩ := trodAll_nil r0
    obtain rfl : args = #[v0] := by cases args; simp_all
    exact contract W (hval 0 35 v0 rfl rfl) h0 (fun x hx => hlt x hx) hsz

theorem over : Rows.hashTellsRow.holds Try.pinned (OpenSpec.ofChange Rows.hashTellsSpec) :=
  OpenClaim.holds_of_wide 6 Try.f6 rfl rfl rfl rfl rfl rfl rfl ⟨rfl, rfl, rfl, rfl, rfl⟩ rfl rfl rfl rfl rfl (by kernel_rfl) Try.func6 (by kernel_rfl)
    (of_decide_eq_true (by kernel_rfl)) (by unfold Func.isWrapper; rw [if_neg (of_decide_eq_false (by kernel_rfl))]; exact ⟨rfl, rfl⟩)
    (fun os started H enc _ => lifted os started H enc)

/-- THE STATEMENT -/
theorem proved : Rows.HashTellsSaid := over
#print axioms proved
end Go.Proofs.Ytbpdaoedmjpdpaa.HashTells
