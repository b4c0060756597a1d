/- The law NeedTells returns true for every term and all numbers: what an object, a node, a table, buckets need is told as the document says. -/
import Derived.Test.YtofinjkgbbdbcaaLaw13
import Derived.Test.YtofinjkgbbdbcaaTmCopy
import Derived.Test.YtofinjkgbbdbcaaTmSame
import Derived.Test.YtofinjkgbbdbcaaSmall
import Derived.Test.YtofinjkgbbdbcaaOpenTm
namespace Go.Proofs.Ytofinjkgbbdbcaa.NeedTells
open Go.RowKit K Ar Nd
open Go.ChangeShapes Go.WideShapes Go.ChangeAt
set_option linter.unusedVariables false
set_option linter.unusedSimpArgs false

set_option maxRecDepth 100000 in
set_option maxHeartbeats 8000000 in
theorem walk (t : Tm) (kd bk : Int) (v : Value) (w : World) (h : TA w t v) : Calls Try.prog 3 #[v, .int .i64 kd, .int .i64 bk] w fun e w' => e = .returned (.bool true) ∧ Below w.heap.size w w' := by
  have HTA := Lib.hid h
  obtain ⟨k0, n0, s, l, A, c, rfl, rfl, ok, hl⟩ := h.open_
  obtain ⟨w1, hw1⟩ : ∃ w1, w.alloc (.cells #[.int .i64 k0, .int .i64 n0, .string s, .slice A l.length c] 24) = w1 := ⟨_, rfl⟩
  have HR := Lib.hid (show Below w.heap.size w w1 from by rw [← hw1]; exact ballocs (Below.refl w.heap.size w) _)
  have HG := Lib.hid (show Blk w1 w.heap.size 24 #[.int .i64 k0, .int .i64 n0, .string s, .slice A l.length c] from by rw [← hw1]; exact Blk.new _ _ _)
  have HW := Lib.hid hw1
  clear h hl ok hw1
  have HLT := Lib.hid (fun t v w h => largeTerm_any t 400 v w (by omega) h)
  by_cases h1 : largeT (.mk k0 n0 s l) 400 = true
  · go_enter Try.func3, Try.ntmps3
    go_wp2_with fail
    rw [HW.out]
    refine (HLT.out _ _ _ (HTA.out.later HR.out)).mono ?_
    rintro e w2 ⟨rfl, hb2⟩
    have HB2 := Lib.hid (bnext HR.out hb2)
    rw [h1]
    clear hb2
    go_wp2_with fail
    go_ret
    exact ⟨rfl, HB2.out⟩
  · have h1' : largeT (.mk k0 n0 s l) 400 = false := by simpa using h1
    have hn : nodes (.mk k0 n0 s l) ≤ 1048576 := small_nodes h1' (by omega)
    have HCP := Lib.hid (fun v w h => copyTerm_any (.mk k0 n0 s l) hn v w h)
    have HO := Lib.hid (fun v w h => obj_any (.mk k0 n0 s l) v w h hn)
    have HRO := Lib.hid (fun v w h => robj_any (.mk k0 n0 s l) v w h hn)
    have ea := eqT_self (.mk k0 n0 s l)
    obtain ⟨x, hx⟩ : ∃ x, objN (.mk k0 n0 s l) = x := ⟨_, rfl⟩
    obtain ⟨y, hy⟩ : ∃ y, objE (.mk k0 n0 s l) = y := ⟨_, rfl⟩
    rw [hx, hy] at HO HRO
    obtain ⟨nk, hnk⟩ : ∃ y, nodeK kd = y := ⟨_, rfl⟩
    obtain ⟨tk, htk⟩ : ∃ y, tableK kd = y := ⟨_, rfl⟩
    obtain ⟨bn, hbn⟩ : ∃ y, bktN bk = y := ⟨_, rfl⟩
    have HN := Lib.hid (fun w => hnk ▸ node_any kd w)
    have HRN := Lib.hid (fun w => hnk ▸ rnode_any kd w)
    have HTb := Lib.hid (fun w => htk ▸ table_any kd w)
    have HRTb := Lib.hid (fun w => htk ▸ rtable_any kd w)
    have HK := Lib.hid (fun w => hbn ▸ bkt_any bk w)
    have HRK := Lib.hid (fun w => hbn ▸ rbkt_any bk w)
    clear h1 hn hx hy hnk htk hbn
    go_enter Try.func3, Try.ntmps3
    go_wp2_with fail
    rw [HW.out]
    refine (HLT.out _ _ _ (HTA.out.later HR.out)).mono ?_
    rintro e w2 ⟨rfl, hb2⟩
    have HB2 := Lib.hid (bnext HR.out hb2)
    have HG2 := Lib.hid (HG.out.below hb2 HG.out.lt)
    rw [h1']
    clear hb2
    obtain ⟨p0, p1, p2, p3, _, _, _, _⟩ := HG2.out.four
    go_wp2_with fail
    refine (HCP.out _ _ (HTA.out.later HB2.out)).mono ?_
    rintro e w3 ⟨v3, rfl, ht3, hb3⟩
    obtain ⟨A3, c3, rfl, _⟩ := ht3.inv
    dsimp only [tv, Tm.k_mk, Tm.n_mk, Tm.s_mk, Tm.l_mk] at ht3 ⊢
    have HB3 := Lib.hid (bnext HB2.out hb3)
    have HG3 := Lib.hid (HG2.out.below hb3 HG2.out.lt)
    obtain ⟨w4, hw4⟩ : ∃ w4, w3.alloc (.cells #[.int .i64 k0, .int .i64 n0, .string s, .slice A3 l.length c3] 24) = w4 := ⟨_, rfl⟩
    have HB4 := Lib.hid (show Below w.heap.size w w4 from by rw [← hw4]; exact ballocs HB3.out _)
    have HI4 := Lib.hid (show Blk w4 w3.heap.size 24 #[.int .i64 k0, .int .i64 n0, .string s, .slice A3 l.length c3] from by rw [← hw4]; exact Blk.new _ _ _)
    have HG4 := Lib.hid (show Blk w4 w.heap.size 24 #[.int .i64 k0, .int .i64 n0, .string s, .slice A l.length c] from by rw [← hw4]; exact HG3.out.alloc _)
    have HX4 := Lib.hid (show TA w4 (.mk k0 n0 s l) (.agg #[.int .i64 k0, .int .i64 n0, .string s, .slice A3 l.length c3]) from by
      rw [← hw4]; exact (show TA w3 _ _ from ht3.mono fun b hb => hb.2).later (ballocs (Below.refl w3.heap.size w3) _))
    have HW4 := Lib.hid hw4
    clear hb3 ht3 hw4 p0 p1 p2 p3
    go_wp2_with fail
    rw [HW4.out]
    refine (HO.out _ _ HX4.out).mono ?_
    rintro e w5 ⟨rfl, hb5⟩
    have HB5 := Lib.hid (bnext HB4.out hb5)
    have HG5 := Lib.hid (HG4.out.below hb5 HG4.out.lt)
    have HI5 := Lib.hid (HI4.out.below hb5 HI4.out.lt)
    have HX5 := Lib.hid (HX4.out.later hb5)
    clear hb5
    obtain ⟨p0, p1, p2, p3, _, _, _, _⟩ := HG5.out.four
    go_wp2_with fail
    refine (HRO.out _ _ (HTA.out.later HB5.out)).mono ?_
    rintro e w6 ⟨rfl, hb6⟩
    have HB6 := Lib.hid (bnext HB5.out hb6)
    have HG6 := Lib.hid (HG5.out.below hb6 HG5.out.lt)
    have HI6 := Lib.hid (HI5.out.below hb6 HI5.out.lt)
    have HX6 := Lib.hid (HX5.out.later hb6)
    clear hb6 p0 p1 p2 p3
    obtain ⟨p0, p1, p2, p3, _, _, _, _⟩ := HG6.out.four
    obtain ⟨s0, s1, s2, s3, _, _, _, _⟩ := HI6.out.four
    go_wp2_with fail
    refine (sameTerm_any _ _ _ _ _ HX6.out (HTA.out.later HB6.out)).mono ?_
    rintro e w7 ⟨rfl, hb7⟩
    have HB7 := Lib.hid (bnext HB6.out hb7)
    rw [ea]
    clear hb7 p0 p1 p2 p3 s0 s1 s2 s3
    go_wp2_with fail
    refine (HN.out _).mono ?_
    rintro e w8 ⟨rfl, hb8⟩
    have HB8 := Lib.hid (bnext HB7.out hb8)
    clear hb8
    go_wp2_with fail
    refine (HRN.out _).mono ?_
    rintro e w9 ⟨rfl, rfl⟩
    go_wp2_with fail
    refine (HTb.out _).mono ?_
    rintro e w9 ⟨rfl, hb9⟩
    have HB9 := Lib.hid (bnext HB8.out hb9)
    clear hb9
    go_wp2_with fail
    refine (HRTb.out _).mono ?_
    rintro e w10 ⟨rfl, rfl⟩
    go_wp2_with fail
    refine (HK.out _).mono ?_
    rintro e w10 ⟨rfl, rfl⟩
    go_wp2_with fail
    refine (HRK.out _).mono ?_
    rintro e w10 ⟨rfl, rfl⟩
    go_wp2_with fail
    refine (awake_any _).mono ?_
    rintro e w10 ⟨rfl, hb10⟩
    have HB10 := Lib.hid (bnext HB9.out hb10)
    clear hb10
    go_wp2_with fail
    go_ret
    exact ⟨rfl, HB10.out⟩

theorem contract {H : Type} {enc : TypeId × Value → H} (W : World) {base : Nat} {r r' r'' : Reach} {b b' b'' : Nat} {hd hd' hd'' : Bool} {v0 v1 v2 : Value} {d0 d1 d2 : DataW H} {p0 p1 p2 : List MemPlace}
    (o0 : Value.okWide Try.prog W r b 24 v0) (h0 : DataW.Trod enc Try.prog W base (fun _ => true) hd 24 v0 d0 p0) (o1 : Value.okWide Try.prog W r' b' 3 v1) (h1 : DataW.Trod enc Try.prog W base (fun _ => true) hd' 3 v1 d1 p1)
    (o2 : Value.okWide Try.prog W r'' b'' 3 v2) (h2 : DataW.Trod enc Try.prog W base (fun _ => true) hd'' 3 v2 d2 p2) {Q R : Prop} (_ : Q) (_ : R) :
    Calls Try.prog 3 #[v0, v1, v2] W fun e w' => e = .returned (.bool true) ∧ Below W.heap.size W w' := by
  obtain ⟨a, ha⟩ := open_t o0 h0
  obtain ⟨a1, rfl, _, _, w1⟩ := open_int Try.underlying3 o1 h1
  obtain ⟨a2, rfl, _, _, w2⟩ := open_int Try.underlying3 o2 h2
  exact walk a a1 a2 v0 W ha

theorem own : ownKnob Try.prog.godebug = none := by kernel_rfl
theorem laidOut : laidOutB Try.prog = true := by kernel_rfl
theorem readable : ∀ t ∈ Try.f3.params.toList, Try.prog.readableRec t = true ∧ t < Try.prog.types.size := by
  rw [show Try.f3.params = #[24, 3, 3] from Try.params3]
  intro t h
  simp only [List.mem_cons, List.not_mem_nil, or_false] at h
  rcases h with rfl | rfl | rfl
  · exact ⟨by kernel_rfl, of_decide_eq_true (by kernel_rfl)⟩
  · exact ⟨by kernel_rfl, of_decide_eq_true (by kernel_rfl)⟩
  · exact ⟨by kernel_rfl, of_decide_eq_true (by kernel_rfl)⟩
set_option maxRecDepth 100000 in
theorem lifted (os : Os) (started : os.Started) (H : Type) (enc : TypeId × Value → H) :
    ReturnsInHanded {} Try.checked os 3 .any (Rows.needTellsSpec.pre6 enc Try.prog Try.f3 Rows.needTellsRow.domain false) (Rows.needTellsSpec.post enc Try.prog Try.f3 false true false false) := by
  refine K.law_lift (C := Try.checked) (b := 4) own started (by kernel_rfl) Try.func3
    (ChangeSpec.witness6 (enc := enc) (C := Try.checked) false ⟨#[], #[.agg #[.int .i64 0, .int .i64 0, .string .empty, .slice none 0 0], .int .i64 0, .int .i64 0], []⟩ 8 (by kernel_rfl) (by kernel_rfl) (by kernel_rfl) (by kernel_rfl)) laidOut readable rfl rfl Try.underlying4 ?_ ?_
  · intro ds hds
    rw [show Try.f3.params = #[24, 3, 3] from Try.params3] at hds
    match ds, hds with
    | [d0, d1, d2], _ => rfl
  · intro W base args ds p hval hA hlt hsz
    rw [show Try.checked.prog = Try.prog from rfl] at hval hA hsz
    rw [show Try.f3.params = #[24, 3, 3] from Try.params3] at hA hval hsz
    obtain ⟨v0, vs0, d0, ds0, p0, q0, hargs, rfl, rfl, h0, r0⟩ := trodAll_cons hA
    obtain ⟨v1, vs1, d1, ds1, p1, q1, rfl, rfl, rfl, h1, r1⟩ := trodAll_cons r0
    obtain ⟨v2, vs2, d2, ds2, p2, q2, rfl, rfl, rfl, h2, r2⟩ := trodAll_cons r1
    obtain ⟨rfl, rfl, rfl⟩ := trodAll_nil r2
    obtain rfl : args = #[v0, v1, v2] := by cases args; simp_all
    exact contract W (hval 0 24 v0 rfl rfl) h0 (hval 1 3 v1 rfl rfl) h1 (hval 2 3 v2 rfl rfl) h2 (fun x hx => hlt x hx) hsz

theorem over : Rows.needTellsRow.holds Try.pinned (OpenSpec.ofChange Rows.needTellsSpec) :=
  OpenClaim.holds_of_wide 3 Try.f3 rfl rfl rfl rfl rfl rfl rfl ⟨rfl, rfl, rfl, rfl, rfl⟩ rfl rfl rfl rfl rfl (by kernel_rfl) Try.func3 (by kernel_rfl)
    (of_decide_eq_true (by kernel_rfl)) (by unfold Func.isWrapper; rw [if_neg (of_decide_eq_false (by kernel_rfl))]; exact ⟨rfl, rfl⟩)
    (fun os started H enc _ => lifted os started H enc)

/-- THE STATEMENT -/
theorem proved : Rows.NeedTellsSaid := over
#print axioms proved
end Go.Proofs.Ytofinjkgbbdbcaa.NeedTells
