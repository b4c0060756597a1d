/- The law PatternTells returns true: a variable, or the one that matches all, the variables of a term and whether it is bound are told as the document says. -/
import Derived.Test.YtlaplakaifmpeaaPatAwake
import Derived.Test.YtlaplakaifmpeaaPatLarge
import Derived.Test.YtlaplakaifmpeaaPatRefBd
import Derived.Test.YtlaplakaifmpeaaSameInts
import Derived.Test.YtlaplakaifmpeaaOpenTm
namespace Go.Proofs.Ytlaplakaifmpeaa.PatternTells
open Go.RowKit K Pt
open Go.ChangeShapes Go.WideShapes Go.ChangeAt
set_option linter.unusedVariables false
set_option linter.unusedSimpArgs false

theorem bdrewN {B n : Nat} {w w' : World} (h : Below B w w') : Below B w (w'.drewN n) := ⟨h.os, h.tape, h.output, h.size, h.block⟩
theorem vars_all (t : Tm) (v : Value) (w : World) (h : TA w t v) (hn : nodes t ≤ 1048576) : Calls Try.prog 29 #[v] w fun e w' => ∃ A1 c1, e = .returned (.slice A1 (rvarsT t).length c1) ∧ IsAt w' A1 c1 (rvarsT t) ∧ Below w.heap.size w w' := by
  cases hm : mayT t with
  | true =>
    refine (vars_yes t v w h hn hm).mono ?_
    rintro e w1 ⟨A1, c1, rfl, ho, hb⟩
    have he : rvarsT t = varsT t := by unfold rvarsT; rw [if_pos hm, rvars_vars hm]
    obtain ⟨A2, c2, hv, h2, h3⟩ := ownsRow_form ho
    injection hv with hv1 hv2 hv3
    subst hv1 hv3
    exact ⟨A1, c1, by rw [he], by rw [he]; exact ⟨Reads.of_own ho, h2, h3⟩, hb⟩
  | false =>
    refine (vars_no t v w h hn hm).mono ?_
    rintro e w1 ⟨rfl, hb⟩
    have he : rvarsT t = [] := by unfold rvarsT; rw [if_neg (by simp [hm])]
    exact ⟨none, 0, by rw [he]; rfl, by rw [he]; exact IsAt.nil _, hb⟩
set_option maxRecDepth 100000 in
set_option maxHeartbeats 16000000 in
theorem walk (p : Tm) (vp : Value) (w : World) (hp : TA w p vp) : Calls Try.prog 5 #[vp] w fun e w' => e = .returned (.bool true) ∧ Below w.heap.size w w' := by
  have hp0 := hp
  obtain ⟨k0, n0, s, l, A, c, hpe, rfl, okp, hlp⟩ := hp.open_
  obtain ⟨W2, hW2⟩ : ∃ W2, w.alloc (.cells #[.int .i64 k0, .int .i64 n0, .string s, .slice A l.length c] 24) = W2 := ⟨_, rfl⟩
  have hb2 : Below w.heap.size w W2 := by rw [← hW2]; exact ballocs (Below.refl _ _) _
  have hgp : Blk W2 w.heap.size 24 #[.int .i64 k0, .int .i64 n0, .string s, .slice A l.length c] := by rw [← hW2]; exact Blk.new _ _ _
  have HP := Lib.hid (hp0.later hb2)
  have HB2 := Lib.hid hb2
  have HGP := Lib.hid hgp
  have HW2 := Lib.hid hW2
  have HP0 := Lib.hid hp0
  clear hp hp0 okp hlp hb2 hgp hW2 hpe
  obtain ⟨p0, p1, p2, p3, _, _, _, _⟩ := HGP.out.four
  go_enter Try.func5, Try.ntmps5
  go_wp2_with fail
  rw [HW2.out]
  have hz2 : W2.heap.size = w.heap.size + 1 := by rw [← HW2.out]; simp
  have hrow := lit_rowF (vs := [_]) (.cons (show TAt W2 (· < W2.heap.size) p _ from HP.out) .nil) (fun b h => h) (by simp [maxLen]) #[.int .i64 k0, .int .i64 n0, .string s, .slice A l.length c] rfl
  have HLA := Lib.hid (large_any [p] [] (some ⟨W2.heap.size, 0, none⟩) none 1 0 _ (hrow.mono (fun b hb => by rw [World.size_alloc]; omega)) (fun i q h => by simp at h) (by simp [maxLen]) (by simp [maxLen]))
  simp only [List.length_cons, List.length_nil, Nat.zero_add, Nat.reduceAdd] at HLA
  rw [hz2] at HLA
  obtain ⟨W4, hW4⟩ : ∃ W4, W2.alloc (.cells #[.int .i64 k0, .int .i64 n0, .string s, .slice A l.length c] 24) = W4 := ⟨_, rfl⟩
  have hb4 : Below W2.heap.size W2 W4 := by rw [← hW4]; exact ballocs (Below.refl _ _) _
  rw [hW4] at HLA ⊢
  clear hrow hW4 p0 p1 p2 p3 hz2
  refine HLA.out.mono ?_
  rintro e w5 ⟨⟨r, rfl, hr⟩, hb5⟩
  have hb35 : Below W2.heap.size W2 w5 := bnext hb4 hb5
  have HB5 := Lib.hid (bnext HB2.out hb35)
  have HP5 := Lib.hid (HP.out.later hb35)
  have HGP5 := Lib.hid (HGP.out.below hb35 HGP.out.lt)
  have HR := Lib.hid hr
  clear hb4 hb5 hb35 HLA hr
  cases r with
  | true =>
    go_wp2_with fail
    go_ret
    exact ⟨ret1_b rfl, HB5.out⟩
  | false =>
    have hnp : nodes p ≤ 300 := (HR.out rfl).1 p (by simp)
    have hn : nodes p ≤ 1048576 := by omega
    have HNP := Lib.hid hnp
    have HN := Lib.hid hn
    clear HR hnp hn
    obtain ⟨p0, p1, p2, p3, _, _, _, _⟩ := HGP5.out.four
    go_wp2_with fail
    refine (copyTerm_any p HN.out _ _ HP5.out).mono ?_
    rintro e w6 ⟨v6, rfl, ht6, hb6⟩
    obtain ⟨A3, c3, rfl, _⟩ := ht6.inv
    have HB6 := Lib.hid (bnext HB5.out hb6)
    have HGP6 := Lib.hid (HGP5.out.below hb6 HGP5.out.lt)
    have hpe : tv p A3 c3 = .agg #[.int .i64 k0, .int .i64 n0, .string s, .slice A3 l.length c3] := by
      obtain ⟨A9, c9, e9, _⟩ := HP5.out.inv
      unfold tv at e9 ⊢
      injection e9 with e9
      simp only [Array.mk.injEq, List.cons.injEq, and_true, Value.int.injEq, true_and, Value.string.injEq, Value.slice.injEq] at e9
      obtain ⟨q0, q1, q2, _, q3, _⟩ := e9
      rw [q0, q1, q2, q3]
    rw [hpe] at ht6 ⊢
    have HT6 := Lib.hid (show TA w6 p _ from ht6.mono fun b hb => hb.2)
    obtain ⟨w7, hw7⟩ : ∃ w7, w6.alloc (.cells #[.int .i64 k0, .int .i64 n0, .string s, .slice A3 l.length c3] 24) = w7 := ⟨_, rfl⟩
    have hb7 : Below w6.heap.size w6 w7 := by rw [← hw7]; exact ballocs (Below.refl _ _) _
    have HB7 := Lib.hid (bnext HB6.out hb7)
    have HX7 := Lib.hid (HT6.out.later hb7)
    have HI7 := Lib.hid (show Blk w7 w6.heap.size 24 #[.int .i64 k0, .int .i64 n0, .string s, .slice A3 l.length c3] from by rw [← hw7]; exact Blk.new _ _ _)
    have HG7 := Lib.hid (HGP6.out.below hb7 HGP6.out.lt)
    have HW7 := Lib.hid hw7
    clear hb6 hb7 ht6 hw7 hpe p0 p1 p2 p3
    go_wp2_with fail
    rw [HW7.out]
    have HVA := Lib.hid (var_any p _ w7 HX7.out HN.out)
    obtain ⟨x, b, hxb⟩ : ∃ x b, numV (varT p) = .tuple #[.int .i64 x, .bool b] := by
      cases varT p with
      | none => exact ⟨_, _, rfl⟩
      | some q => exact ⟨_, _, rfl⟩
    have HXB := Lib.hid hxb
    clear hxb
    refine HVA.out.mono ?_
    rw [HXB.out]
    rintro e w8 ⟨rfl, hb8⟩
    have HB8 := Lib.hid (bnext HB7.out hb8)
    have HX8 := Lib.hid (HX7.out.later hb8)
    have HI8 := Lib.hid (HI7.out.below hb8 HI7.out.lt)
    have HG8 := Lib.hid (HG7.out.below hb8 HG7.out.lt)
    have HP8 := Lib.hid (HP0.out.later HB8.out)
    clear hb8
    obtain ⟨p0, p1, p2, p3, _, _, _, _⟩ := HG8.out.four
    obtain ⟨s0, s1, s2, s3, _, _, _, _⟩ := HI8.out.four
    go_wp2_with fail
    refine (rvar_any p _ w8 HP8.out HN.out).mono ?_
    rw [HXB.out]
    rintro e w9 ⟨rfl, hb9⟩
    have HB9 := Lib.hid (bnext HB8.out hb9)
    have HX9 := Lib.hid (HX8.out.later hb9)
    have HI9 := Lib.hid (HI8.out.below hb9 HI8.out.lt)
    have HG9 := Lib.hid (HG8.out.below hb9 HG8.out.lt)
    have HP9 := Lib.hid (HP0.out.later HB9.out)
    clear hb9 p0 p1 p2 p3 s0 s1 s2 s3
    obtain ⟨p0, p1, p2, p3, _, _, _, _⟩ := HG9.out.four
    obtain ⟨s0, s1, s2, s3, _, _, _, _⟩ := HI9.out.four
    have HLEN := Lib.hid (show (rvarsT p).length ≤ 1099511627776 from by
      unfold rvarsT
      split
      · rename_i hm; rw [rvars_vars hm]; exact Nat.le_trans (varsUp_len _ _) (by decide)
      · simp)
    go_wp2_with fail
    have HS := Lib.hid (show ∀ wx', Below w9.heap.size w9 wx' → (Below w9.heap.size w9 wx' ∧ wx'.cell? ⟨w.heap.size, 0, none⟩ = some (.int .i64 k0) ∧ wx'.cell? ⟨w.heap.size, 1, none⟩ = some (.int .i64 n0) ∧ wx'.cell? ⟨w.heap.size, 2, none⟩ = some (.string s) ∧ wx'.cell? ⟨w.heap.size, 3, none⟩ = some (.slice A l.length c) ∧ wx'.cell? ⟨w6.heap.size, 0, none⟩ = some (.int .i64 k0) ∧ wx'.cell? ⟨w6.heap.size, 1, none⟩ = some (.int .i64 n0) ∧ wx'.cell? ⟨w6.heap.size, 2, none⟩ = some (.string s) ∧ wx'.cell? ⟨w6.heap.size, 3, none⟩ = some (.slice A3 l.length c3)) from fun wx' hb => by
      obtain ⟨p0, p1, p2, p3, _, _, _, _⟩ := (HG9.out.below hb HG9.out.lt).four
      obtain ⟨s0, s1, s2, s3, _, _, _, _⟩ := (HI9.out.below hb HI9.out.lt).four
      exact ⟨hb, p0, p1, p2, p3, s0, s1, s2, s3⟩)
    go_region_held3 (fun wx' => Below w9.heap.size w9 wx' ∧ wx'.cell? ⟨w.heap.size, 0, none⟩ = some (.int .i64 k0) ∧ wx'.cell? ⟨w.heap.size, 1, none⟩ = some (.int .i64 n0) ∧ wx'.cell? ⟨w.heap.size, 2, none⟩ = some (.string s) ∧ wx'.cell? ⟨w.heap.size, 3, none⟩ = some (.slice A l.length c) ∧ wx'.cell? ⟨w6.heap.size, 0, none⟩ = some (.int .i64 k0) ∧ wx'.cell? ⟨w6.heap.size, 1, none⟩ = some (.int .i64 n0) ∧ wx'.cell? ⟨w6.heap.size, 2, none⟩ = some (.string s) ∧ wx'.cell? ⟨w6.heap.size, 3, none⟩ = some (.slice A3 l.length c3)) (first
      | exact HS.out _ (btodrew (Below.refl _ _))
      | exact HS.out _ hbz
      | assumption) (first
      | (go_at_call 26
         have hby := And.left (by assumption)
         refine (any_any p _ _ (HX9.out.later hby) HN.out).mono ?_
         rintro e wz ⟨rfl, hbz0⟩
         have hbz := bnext hby hbz0)
      | (go_at_call 27
         have hby := And.left (by assumption)
         refine (rany_any p _ _ (HP9.out.later hby) HN.out).mono ?_
         rintro e wz ⟨rfl, hbz0⟩
         have hbz := bnext hby hbz0)
      | (go_at_call 29
         have hby := And.left (by assumption)
         refine (vars_all p _ _ (HX9.out.later hby) HN.out).mono ?_
         rintro e wz ⟨A6, c6, rfl, hr6, hbz0⟩
         have HR8 := Lib.hid hr6
         clear hr6
         have hbz := bnext hby hbz0)
      | (go_at_call 30
         have hby := And.left (by assumption)
         refine (rVars_any p _ _ (HP9.out.later hby) HN.out).mono ?_
         rintro e wz ⟨A7, c7, rfl, hr6, hbz0⟩
         have HR9 := Lib.hid (HR8.out.later hbz0)
         have HR10 := Lib.hid hr6
         clear hr6
         have hbz := bnext hby hbz0)
      | (go_at_call 28
         have hby := And.left (by assumption)
         refine (sameInts_yes _ _ _ _ _ _ (rvarsT p) _ HR9.out.1 HR10.out.1 HLEN.out).mono ?_
         rintro e wz ⟨rfl, nd, rfl⟩
         have hbz := bnext hby (bdrewN (n := nd) (Below.refl _ _)))
      | (go_at_call 31
         have hby := And.left (by assumption)
         refine (bound_any p _ _ (HX9.out.later hby) HN.out).mono ?_
         rintro e wz ⟨rfl, hbz0⟩
         have hbz := bnext hby hbz0)
      | (go_at_call 32
         have hby := And.left (by assumption)
         refine (rBound_any p _ _ (HP9.out.later hby) HN.out).mono ?_
         rintro e wz ⟨rfl, hbz0⟩
         have hbz := bnext hby hbz0)
      | (go_at_call 18
         have hby := And.left (by assumption)
         refine (sameTerm_any p p _ _ _ (HX9.out.later hby) (HP9.out.later hby)).mono ?_
         rw [eqT_iff.2 rfl]
         rintro e wz ⟨rfl, hbz0⟩
         have hbz := bnext hby hbz0)
      | (go_at_call 19
         have hby := And.left (by assumption)
         refine (awake_any _).mono ?_
         rintro e wz ⟨rfl, hbz0⟩
         have hbz := bnext hby hbz0)
      | fail)
    have hb10 := And.left (by assumption)
    go_wp2_with fail
    go_ret
    exact ⟨ret1_b rfl, bnext HB9.out hb10⟩
theorem contract {H : Type} {enc : TypeId × Value → H} (W : World) {base : Nat} {r : Reach} {b : Nat} {hd : Bool} {v0 : Value} {d0 : DataW H} {p0 : List MemPlace}
    (o0 : Value.okWide Try.prog W r b 24 v0) (h0 : DataW.Trod enc Try.prog W base (fun _ => true) hd 24 v0 d0 p0) {Q R : Prop} (_ : Q) (_ : R) :
    Calls Try.prog 5 #[v0] W fun e w' => e = .returned (.bool true) ∧ Below W.heap.size W w' := by
  obtain ⟨a, ha⟩ := open_t o0 h0
  exact walk a v0 W ha

theorem own : ownKnob Try.prog.godebug = none := by kernel_rfl
theorem laidOut : laidOutB Try.prog = true := by kernel_rfl
theorem readable : ∀ t ∈ Try.f5.params.toList, Try.prog.readableRec t = true ∧ t < Try.prog.types.size := by
  rw [show Try.f5.params = #[24] from Try.params5]
  intro t h
  simp only [List.mem_cons, List.not_mem_nil, or_false] at h
  subst h
  exact ⟨by kernel_rfl, of_decide_eq_true (by kernel_rfl)⟩
set_option maxRecDepth 100000 in
theorem lifted (os : Os) (started : os.Started) (H : Type) (enc : TypeId × Value → H) :
    ReturnsInHanded {} Try.checked os 5 .any (Rows.patternTellsSpec.pre6 enc Try.prog Try.f5 Rows.patternTellsRow.domain false) (Rows.patternTellsSpec.post enc Try.prog Try.f5 false true false false) := by
  refine K.law_lift (C := Try.checked) (b := 4) own started (by kernel_rfl) Try.func5
    (ChangeSpec.witness6 (enc := enc) (C := Try.checked) false ⟨#[], #[.agg #[.int .i64 0, .int .i64 0, .string ⟨#[]⟩, .slice none 0 0]], []⟩ 8 (by kernel_rfl) (by kernel_rfl) (by kernel_rfl) (by kernel_rfl)) laidOut readable rfl rfl Try.underlying4 ?_ ?_
  · intro ds hds
    rw [show Try.f5.params = #[24] from Try.params5] at hds
    match ds, hds with
    | [d0], _ => rfl
  · intro W base args ds p hval hA hlt hsz
    rw [show Try.checked.prog = Try.prog from rfl] at hval hA hsz
    rw [show Try.f5.params = #[24] from Try.params5] at hA hval hsz
    obtain ⟨v0, vs0, d0, ds0, p0, q0, hargs, rfl, rfl, h0, r0⟩ := trodAll_cons hA
    obtain ⟨rfl, rfl, rfl⟩ := trodAll_nil r0
    obtain rfl : args = #[v0] := by cases args; simp_all
    exact contract W (hval 0 24 v0 rfl rfl) h0 (fun x hx => hlt x hx) hsz

theorem over : Rows.patternTellsRow.holds Try.pinned (OpenSpec.ofChange Rows.patternTellsSpec) :=
  OpenClaim.holds_of_wide 5 Try.f5 rfl rfl rfl rfl rfl rfl rfl ⟨rfl, rfl, rfl, rfl, rfl⟩ rfl rfl rfl rfl rfl (by kernel_rfl) Try.func5 (by kernel_rfl)
    (of_decide_eq_true (by kernel_rfl)) (by unfold Func.isWrapper; rw [if_neg (of_decide_eq_false (by kernel_rfl))]; exact ⟨rfl, rfl⟩)
    (fun os started H enc _ => lifted os started H enc)

/-- THE STATEMENT -/
theorem proved : Rows.PatternTellsSaid := over
#print axioms proved
end Go.Proofs.Ytlaplakaifmpeaa.PatternTells
