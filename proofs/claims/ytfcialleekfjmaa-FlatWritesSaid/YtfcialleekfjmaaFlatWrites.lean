/- The law FlatWrites returns true for every input: a term's words, and the atoms that the table has then, are the document's. -/
import Derived.Test.YtfcialleekfjmaaFlRFlat
import Derived.Test.YtfcialleekfjmaaFlKit
import Derived.Test.YtfcialleekfjmaaFlVal
import Derived.Test.YtfcialleekfjmaaTmCopy
import Derived.Test.YtfcialleekfjmaaTmBig
import Derived.Test.YtfcialleekfjmaaOpenTm
namespace Go.Proofs.Ytfcialleekfjmaa.FlatWrites
open Go.RowKit K At Fl
open Go.ChangeShapes Go.WideShapes Go.ChangeAt
set_option linter.unusedVariables false
set_option linter.unusedSimpArgs false

theorem flW_len (L : List ByteArray) (t : Tm) : (flW L t).length ≤ 65536 := by
  unfold flW
  split
  · rename_i h
    by_cases hc : chk t = 0
    · have h1 := (chk_snd hc).2
      have := flat_len (ix (nums t L).2) t
      omega
    · unfold flE at h
      rw [if_neg hc] at h
      exact absurd h hc
  · simp
set_option maxRecDepth 100000 in
set_option maxHeartbeats 16000000 in
theorem walk (Ax : Option Addr) (cx : Nat) (xs : List ByteArray) (t : Tm) (vt : Value) (w : World) (hr : Reads w w.heap.size 1 Ax xs.length (xs.map Value.string)) (hx : ∀ s ∈ xs, s.size ≤ maxLen) (hl : xs.length ≤ cx) (hc : cx ≤ maxLen) (ht : TA w t vt) :
    Calls Try.prog 5 #[.slice Ax xs.length cx, vt] w fun e w' => e = .returned (.bool true) ∧ Below w.heap.size w w' := by
  have ht0 := ht
  obtain ⟨k, n, s, tl, A, c, hte, rfl, ok, _⟩ := ht.open_
  obtain ⟨m, hm⟩ : ∃ m, tl.length = m := ⟨_, rfl⟩
  rw [hm] at ht0 ⊢
  have hB := Blk.new w 24 #[.int .i64 k, .int .i64 n, .string s, .slice A m c]
  have hb0 := ballocs (Below.refl w.heap.size w) (.cells #[.int .i64 k, .int .i64 n, .string s, .slice A m c] 24)
  obtain ⟨w0, hw0⟩ : ∃ x, w.alloc (.cells #[.int .i64 k, .int .i64 n, .string s, .slice A m c] 24) = x := ⟨_, rfl⟩
  rw [hw0] at hB hb0
  have HW0 := Lib.hid hw0
  have HT := Lib.hid (show TAt w (· < w.heap.size) t _ from ht0)
  have HBX := Lib.hid hB; have HB0 := Lib.hid hb0
  have HR0 := Lib.hid ((hr.below hb0).more hb0.size)
  have HX := Lib.hid hx; have HL := Lib.hid hl; have HCX := Lib.hid hc
  have HLG := Lib.hid (largeTerm_any t 400 _ w0 (by decide) (ht0.later hb0))
  have HLT := Lib.hid (longTexts_any Ax cx xs 20 w0 HR0.out hx hl hc)
  obtain ⟨p0, p1, p2, p3, _, _, _, _⟩ := hB.four
  clear ht ht0 hte ok hw0 hB hb0 hr hx hl hc hm
  go_enter Try.func5, Try.ntmps5
  go_wp2_with fail
  rw [HW0.out]
  refine HLT.out.mono ?_
  rintro e w' ⟨⟨b, rfl⟩, hww⟩
  obtain rfl : w0 = w' := hww.symm
  cases b with
  | true =>
    go_wp2_with fail
    go_ret
    exact ⟨ret1_b rfl, HB0.out⟩
  | false =>
  go_wp2_with fail
  refine HLG.out.mono ?_
  rintro e w1 ⟨rfl, hb1⟩
  have HB1 := Lib.hid (fbelow HB0.out hb1)
  have HBX1 := Lib.hid (HBX.out.below hb1 HBX.out.lt)
  have HR1 := Lib.hid ((HR0.out.below hb1).more hb1.size)
  clear hb1 p0 p1 p2 p3
  cases hlg : largeT t 400 with
  | true =>
    go_wp2_with fail
    go_ret
    exact ⟨ret1_b rfl, HB1.out⟩
  | false =>
  have HND := Lib.hid (small_nodes hlg (n := 400) (Nat.le_refl _))
  clear hlg
  go_wp2_with fail
  refine (atoms_any Ax cx xs w1 HR1.out HX.out HL.out HCX.out).mono ?_
  rintro e w2 ⟨g, h, F, G, L, rfl, hd⟩
  have HD2 := Lib.hid hd
  have HBX2 := Lib.hid (HBX1.out.below hd.bel HBX1.out.lt)
  obtain ⟨p0, p1, p2, p3, _, _, _, _⟩ := HBX2.out.four
  have HT2 := Lib.hid (HT.out.under (fbelow HB1.out hd.bel) (fun b hb => hb))
  have HZ2 := Lib.hid (show w.heap.size < w1.heap.size from HBX1.out.lt)
  have HZ12 := Lib.hid hd.bel.size
  clear hd
  go_wp2_with fail
  rename_i K1 hK1 K2 hK2
  have HKK := Lib.hid hK1
  clear hK1
  refine (copyTerm_any t (by have := HND.out; omega) _ w2 (HT2.out.mono (fun b hb => by have := HZ2.out; have := HZ12.out; omega))).mono ?_
  rintro e w3 ⟨v', rfl, htv, hb3⟩
  obtain ⟨A3, c3, rfl, _, _⟩ := htv.inv
  obtain ⟨k3, n3, s3, hv3⟩ : ∃ k3 n3 s3, tv t A3 c3 = .agg #[.int .i64 k3, .int .i64 n3, .string s3, .slice A3 t.l.length c3] := ⟨_, _, _, rfl⟩
  rw [hv3] at htv ⊢
  have HTV := Lib.hid htv; have HB3 := Lib.hid hb3
  have HD3 := Lib.hid (HD2.out.below hb3); have HBX3 := Lib.hid (HBX2.out.below hb3 HBX2.out.lt)
  have HT3 := Lib.hid (HT2.out.under hb3 (fun b hb => by have := HZ2.out; have := HZ12.out; omega))
  clear htv hb3 hv3 p0 p1 p2 p3
  obtain ⟨m3, hm3⟩ : ∃ m3, t.l.length = m3 := ⟨_, rfl⟩
  rw [hm3] at HTV ⊢
  clear hm3
  go_wp2_with fail
  refine HKK.out _ _ ?_
  have hi4 := Blk.new w3 24 #[.int .i64 k3, .int .i64 n3, .string s3, .slice A3 m3 c3]
  have hb4 := ballocs (Below.refl w3.heap.size w3) (.cells #[.int .i64 k3, .int .i64 n3, .string s3, .slice A3 m3 c3] 24)
  obtain ⟨w4, hw4⟩ : ∃ x, w3.alloc (.cells #[.int .i64 k3, .int .i64 n3, .string s3, .slice A3 m3 c3] 24) = x := ⟨_, rfl⟩
  rw [hw4] at hi4 hb4 ⊢
  obtain ⟨gi, hgi⟩ : ∃ gi, w3.heap.size = gi := ⟨_, rfl⟩
  rw [hgi] at hi4 ⊢
  have HGI := Lib.hid (show w2.heap.size ≤ gi from by rw [← hgi]; exact HB3.out.size)
  have HD4 := Lib.hid (HD3.out.below hb4); have HBX4 := Lib.hid (HBX3.out.below hb4 HBX3.out.lt)
  have HT4 := Lib.hid (HT3.out.under hb4 (fun b hb => by have := HZ2.out; have := HZ12.out; have := HB3.out.size; omega))
  have HTV4 := Lib.hid (HTV.out.under hb4 (fun b hb => hb.2))
  have HI4 := Lib.hid hi4
  have HZ34 := Lib.hid hb4.size
  obtain ⟨q0, q1, q2, q3, _, _, _, _⟩ := hi4.four
  have HFL2 := Lib.hid (Tab.lt_ HD2.out.tab)
  have HGL2 := Lib.hid (RTab.lt_ HD2.out.rtab)
  clear hw4 hi4 hb4 hgi
  go_wp2_with fail
  refine (flatten_any g L t _ w4 F (Fr w2 w3) HD4.out.tab HTV4.out (fun b hb => ⟨Nat.lt_of_lt_of_le hb.2 HZ34.out, fun hf => by have := HFL2.out b hf; have := hb.1; omega⟩) (by have := HND.out; omega)).mono ?_
  intro e w5 hp
  obtain ⟨F5, A5, c5, rfl, _, hk5, hF5, hRx, hlx, hAx, hox⟩ := FlatPost.open_ ⟨HD4.out.tab, HD4.out.bel, HD4.out.fnew⟩ hp
  obtain ⟨F5', sv, he5, hT5', hs5, hkk5, _, _⟩ := hp
  have hleft := DT.left HD4.out hT5' hs5 hkk5
  obtain ⟨hA, hBB, hC, hDD, hE⟩ := hleft
  have HGL4 := Lib.hid (RTab.lt_ HD4.out.rtab)
  have HX5 := Lib.hid (RO.of_own (F := G) hox (fun r hr hg => by have := (hox.lt r hr).1; have := HGL4.out r hg; omega))
  have HBX5 := Lib.hid (HBX4.out.keep hk5 (fun hf => by have := HFL2.out _ hf; have := HD2.out.fnew _ hf; have := HZ2.out; omega))
  have HI5 := Lib.hid (HI4.out.keep hk5 (fun hf => by have := HFL2.out _ hf; have := HGI.out; omega))
  have HT5 := Lib.hid (HT4.out.keepF hk5 (fun b hb => by have := HZ2.out; have := HZ12.out; have := HB3.out.size; have := HZ34.out; omega) (fun b hb hf => by have := HD2.out.fnew _ hf; have := HZ2.out; omega))
  have HTV5 := Lib.hid (HTV4.out.keepF hk5 (fun b hb => Nat.lt_of_lt_of_le hb.2 HZ34.out) (fun b hb hf => by have := HFL2.out _ hf; have := hb.1; omega))
  have HZ45 := Lib.hid hk5.size
  have HRIGHT := Lib.hid (fun G' w6 (hT : RTab w6 G' h (flL L t)) (hs : ∀ k, G' k → G k ∨ w5.heap.size ≤ k) (hk : Keep G w5 w6) => DT.right hA hC hDD HD4.out.gnew hE hT hs hk)
  have HRT := Lib.hid hBB
  obtain ⟨b0, b1, b2, b3, _, _, _, _⟩ := HBX5.out.four
  clear hk5 hF5 hRx hox hlx hAx he5 hT5' hs5 hkk5 hA hBB hC hDD hE q0 q1 q2 q3
  obtain ⟨N, hN⟩ : ∃ N, (flW L t).length = N := ⟨_, rfl⟩
  obtain ⟨ye, hye⟩ : ∃ ye, flE L t = ye := ⟨_, rfl⟩
  have HN := Lib.hid hN; have HYE := Lib.hid hye
  rw [hN, hye]
  clear hN hye
  go_wp2_with fail
  refine (rflat_any h L t _ w5 G (· < w.heap.size) HRT.out HT5.out (fun b hb => ⟨by have := HZ2.out; have := HZ12.out; have := HB3.out.size; have := HZ34.out; have := HZ45.out; omega, fun hg => by have := HD2.out.gnew _ hg; have := HZ2.out; omega⟩) (by have := HND.out; omega)).mono ?_
  rintro e w6 ⟨G6, A6, c6, rfl, hRT6, hs6, hk6, hY6⟩
  have HD6 := Lib.hid (HRIGHT.out G6 w6 hRT6 hs6 hk6)
  have hw6 : ∀ b, b < w5.heap.size → w1.heap.size ≤ b → ¬ G b → ∀ i, w6.cell? ⟨b, i, none⟩ = w5.cell? ⟨b, i, none⟩ := fun b h1 h2 h3 i => hk6.cell (p := ⟨b, i, none⟩) h1 h3
  have HX6 := Lib.hid (HX5.out.step hk6 hs6); have HY6 := Lib.hid hY6
  have HBX6 := Lib.hid (HBX5.out.keep hk6 (fun hg => by have := HD2.out.gnew _ hg; have := HZ2.out; omega))
  have HI6 := Lib.hid (HI5.out.keep hk6 (fun hg => by have := HGL2.out _ hg; have := HGI.out; omega))
  have HT6 := Lib.hid (HT5.out.keepF hk6 (fun b hb => by have := HZ2.out; have := HZ12.out; have := HB3.out.size; have := HZ34.out; have := HZ45.out; omega) (fun b hb hg => by have := HD2.out.gnew _ hg; have := HZ2.out; omega))
  have HTV6 := Lib.hid (HTV5.out.keepF hk6 (fun b hb => Nat.lt_of_lt_of_le hb.2 (Nat.le_trans HZ34.out HZ45.out)) (fun b hb hg => by have := HGL2.out _ hg; have := hb.1; omega))
  have HZ56 := Lib.hid hk6.size
  have HSW := Lib.hid (sameWords_yes A5 A6 c5 c6 _ _ (flW L t) w6 HX6.out.reads HY6.out.reads (Nat.le_trans (flW_len L t) (by decide)))
  rw [HN.out] at HSW
  rw [HN.out, HYE.out]
  clear hRT6 hs6 hk6 hY6 hw6 b0 b1 b2 b3
  have hyy : (ye == ye) = true := by simp
  go_wp2_with fail
  refine HSW.out.mono ?_
  rintro e w' ⟨rfl, d1, rfl⟩
  have hb7 := fdrewN (Below.refl w6.heap.size w6) d1
  have HD7 := Lib.hid (HD6.out.below hb7); have HBX7 := Lib.hid (HBX6.out.below hb7 HBX6.out.lt); have HI7 := Lib.hid (HI6.out.below hb7 HI6.out.lt)
  have HT7 := Lib.hid (HT6.out.drewN d1); have HTV7 := Lib.hid (HTV6.out.drewN d1)
  obtain ⟨w7, hw7⟩ : ∃ x, w6.drewN d1 = x := ⟨_, rfl⟩
  have HZ67 := Lib.hid hb7.size
  rw [hw7] at HD7 HBX7 HI7 HT7 HTV7 HZ67 ⊢
  clear hw7 hb7
  go_wp2_with fail
  refine (sameAtoms_any HD7.out).mono ?_
  rintro e w8 ⟨rfl, hb8⟩
  have HD8 := Lib.hid (HD7.out.below hb8)
  obtain ⟨b0, b1, b2, b3, _, _, _, _⟩ := (HBX7.out.below hb8 HBX7.out.lt).four
  obtain ⟨i0, i1, i2, i3, _, _, _, _⟩ := (HI7.out.below hb8 HI7.out.lt).four
  have hzz : w3.heap.size ≤ w7.heap.size ∧ w.heap.size ≤ w7.heap.size := ⟨by have := HZ34.out; have := HZ45.out; have := HZ56.out; have := HZ67.out; omega, by have := HZ2.out; have := HZ12.out; have := HB3.out.size; have := HZ34.out; have := HZ45.out; have := HZ56.out; have := HZ67.out; omega⟩
  have HT8 := Lib.hid (show TA w8 t _ from (HT7.out.under hb8 (fun b hb => Nat.lt_of_lt_of_le hb hzz.2)).mono (fun b hb => Nat.lt_of_lt_of_le hb (Nat.le_trans hzz.2 hb8.size)))
  have HTV8 := Lib.hid (show TA w8 t _ from (HTV7.out.under hb8 (fun b hb => Nat.lt_of_lt_of_le hb.2 hzz.1)).mono (fun b hb => Nat.lt_of_lt_of_le hb.2 (Nat.le_trans hzz.1 hb8.size)))
  clear hb8 hzz
  go_wp2_with fail
  refine (sameTerm_any t t _ _ w8 HTV8.out HT8.out).mono ?_
  rintro e w9 ⟨rfl, hb9⟩
  rw [eqT_self]
  have HB9 := Lib.hid (fbelow HB1.out (fbelow HD8.out.bel hb9))
  clear hb9 b0 b1 b2 b3 i0 i1 i2 i3
  go_wp2_with fail
  refine (awake_any _).mono ?_
  rintro e w10 ⟨rfl, hb10⟩
  have HB10 := Lib.hid (fbelow HB9.out hb10)
  clear hb10
  go_wp2_with fail
  go_ret
  exact ⟨ret1_b rfl, HB10.out⟩
set_option maxRecDepth 100000 in
theorem contract {H : Type} {enc : TypeId × Value → H} (W : World) {base : Nat} {r : Reach} {b : Nat} {hd : Bool} {v0 v1 : Value} {d0 d1 : DataW H} {p0 p1 : List MemPlace}
    (o0 : Value.okWide Try.prog W r b 28 v0) (h0 : DataW.Trod enc Try.prog W base (fun _ => true) hd 28 v0 d0 p0) (o1 : Value.okWide Try.prog W r b 24 v1) (h1 : DataW.Trod enc Try.prog W base (fun _ => true) hd 24 v1 d1 p1) {Q R : Prop} (_ : Q) (_ : R) :
    Calls Try.prog 5 #[v0, v1] W fun e w' => e = .returned (.bool true) ∧ Below W.heap.size W w' := by
  obtain ⟨A, c, xs, rfl, hr, hx, hl, hc, _⟩ := open_strs_arg Try.underlying28 Try.underlying9 (by kernel_rfl) o0 h0
  obtain ⟨t, ht⟩ := open_t o1 h1
  exact walk A c xs t v1 W hr hx hl hc ht

theorem own : ownKnob Try.prog.godebug = none := by kernel_rfl
theorem laidOut : laidOutB Try.prog = true := by kernel_rfl
theorem readable : ∀ t ∈ Try.f5.params.toList, Try.prog.readableRec t = true ∧ t < Try.prog.types.size := by
  rw [show Try.f5.params = #[28, 24] from Try.params5]
  intro t h
  simp only [List.mem_cons, List.not_mem_nil, or_false] at h
  rcases h with rfl | rfl
  · exact ⟨by kernel_rfl, of_decide_eq_true (by kernel_rfl)⟩
  · exact ⟨by kernel_rfl, of_decide_eq_true (by kernel_rfl)⟩
set_option maxRecDepth 100000 in
theorem lifted (os : Os) (started : os.Started) (H : Type) (enc : TypeId × Value → H) :
    ReturnsInHanded {} Try.checked os 5 .any (Rows.flatWritesSpec.pre6 enc Try.prog Try.f5 Rows.flatWritesRow.domain false) (Rows.flatWritesSpec.post enc Try.prog Try.f5 false true false false) := by
  refine K.law_lift (C := Try.checked) (b := 4) own started (by kernel_rfl) Try.func5
    (ChangeSpec.witness6 (enc := enc) (C := Try.checked) false ⟨#[], #[.slice none 0 0, .agg #[.int .i64 0, .int .i64 0, .string ByteArray.empty, .slice none 0 0]], []⟩ 8 (by kernel_rfl) (by kernel_rfl) (by kernel_rfl) (by kernel_rfl)) laidOut readable rfl rfl Try.underlying4 ?_ ?_
  · intro ds hds
    rw [show Try.f5.params = #[28, 24] from Try.params5] at hds
    match ds, hds with
    | [d0, d1], _ => rfl
  · intro W base args ds p hval hA hlt hsz
    rw [show Try.checked.prog = Try.prog from rfl] at hval hA hsz
    rw [show Try.f5.params = #[28, 24] from Try.params5] at hA hval hsz
    obtain ⟨v0, vs0, d0, ds0, p0, q0, hargs, rfl, rfl, h0, r0⟩ := trodAll_cons hA
    obtain ⟨v1, vs1, d1, ds1, p1, q1, rfl, rfl, rfl, h1, r1⟩ := trodAll_cons r0
    obtain ⟨rfl, rfl, rfl⟩ := trodAll_nil r1
    obtain rfl : args = #[v0, v1] := by cases args; simp_all
    exact contract W (hval 0 28 v0 rfl rfl) h0 (hval 1 24 v1 rfl rfl) h1 (fun x hx => hlt x hx) hsz

theorem over : Rows.flatWritesRow.holds Try.pinned (OpenSpec.ofChange Rows.flatWritesSpec) :=
  OpenClaim.holds_of_wide 5 Try.f5 rfl rfl rfl rfl rfl rfl rfl ⟨rfl, rfl, rfl, rfl, rfl⟩ rfl rfl rfl rfl rfl (by kernel_rfl) Try.func5 (by kernel_rfl)
    (of_decide_eq_true (by kernel_rfl)) (by unfold Func.isWrapper; rw [if_neg (of_decide_eq_false (by kernel_rfl))]; exact ⟨rfl, rfl⟩)
    (fun os started H enc _ => lifted os started H enc)

/-- THE STATEMENT -/
theorem proved : Rows.FlatWritesSaid := over
#print axioms proved
end Go.Proofs.Ytfcialleekfjmaa.FlatWrites
