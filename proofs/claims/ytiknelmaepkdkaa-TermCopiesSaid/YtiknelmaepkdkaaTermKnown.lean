/- The law TermKnown returns true: the chapter's examples are answered as it says. -/
import Derived.Test.YtiknelmaepkdkaaAwake02
import Derived.Test.YtiknelmaepkdkaaCheck
import Derived.Test.YtiknelmaepkdkaaSame
import Derived.Test.YtiknelmaepkdkaaMakeList
import Derived.Test.YtiknelmaepkdkaaSmall
import Derived.Test.YtiknelmaepkdkaaMake65
namespace Go.Proofs.Ytiknelmaepkdkaa.TermKnown
open Go.RowKit K
open Go.ChangeShapes Go.WideShapes Go.ChangeAt
set_option linter.unusedVariables false
set_option linter.unusedSimpArgs false

set_option maxRecDepth 100000 in
set_option maxHeartbeats 4000000 in
theorem refused_any (t : Tm) (v : Value) (w : World) (h : TA w t v) (hn : nodes t ≤ 1048576) (hc : chk t = 2) : Calls Try.prog 34 #[v] w fun e w' => e = .returned (.bool true) ∧ Below w.heap.size w w' := by
  have HCk := Lib.hid (fun w h => check_any t v w h hn)
  rw [hc] at HCk
  have HTA := Lib.hid h
  obtain ⟨k0, n0, s, l, A, c, rfl, rfl, ok, hl⟩ := h.open_
  have HT := Lib.hid (HTA.out.later (ballocs (Below.refl w.heap.size w) (.cells #[.int .i64 k0, .int .i64 n0, .string s, .slice A l.length c] 24)))
  clear h hl ok hn hc
  go_enter Try.func34, Try.ntmps34
  go_wp2_with fail
  refine (HCk.out _ HT.out).mono ?_
  rintro e w2 ⟨rfl, hb2⟩
  have HB2 := Lib.hid (bnext (ballocs (Below.refl _ _) _) hb2)
  clear hb2
  go_wp2_with fail
  go_ret
  exact ⟨rfl, HB2.out⟩
theorem chk_leaf {k n : Int} {s : ByteArray} (h : soundK k n s.size 0 = false) : chk (.mk k n s []) = 2 := by
  unfold chk
  rw [if_neg]
  rw [show subs (.mk k n s []) = [.mk k n s []] from by simp [subs_eq, subsL_nil]]
  simp [sndL, soundB, h]
theorem chk_one : chk (.mk 9 0 ⟨#[]⟩ [tnil]) = 2 := by
  unfold chk
  rw [if_neg]
  rw [show subs (.mk 9 0 ⟨#[]⟩ [tnil]) = [.mk 9 0 ⟨#[]⟩ [tnil], tnil] from by simp [subs_eq, subsL_cons, subsL_nil, tnil]]
  decide
theorem chk_two : chk twoT = 0 := by
  have e : subs twoT = [twoT, tnum 1, .mk 9 0 .empty [tnum 2, tnil], tnum 2, tnil] := by simp [twoT, tlist, tcons, tnum, tnil, subs_eq, subsL_cons, subsL_nil]
  have h : sndL (subs twoT) = true := by rw [e]; decide
  rw [chk_eq, if_pos h, two_wds]
  rfl
theorem nodes_leaf (k n : Int) (s : ByteArray) : nodes (.mk k n s []) ≤ 1048576 := by rw [nodes_mk, nodesL_nil]; omega
theorem it_bad : items (tlist [tnum 1] (tnum 2)) = none := by
  show items (.mk 9 0 _ [tnum 1, tnum 2]) = _
  rw [items_cons]
  show Option.map _ (items (.mk 1 2 _ [])) = _
  rw [items_end (by decide)]
  rfl
theorem it_five : items (tnum 5) = none := by
  show items (.mk 1 5 _ []) = _
  rw [items_end (by decide)]
  rfl

set_option maxRecDepth 100000 in
set_option maxHeartbeats 8000000 in
theorem known (w : World) : Calls Try.prog 6 #[] w fun e w' => e = .returned (.bool true) ∧ Below w.heap.size w w' := by
  have hmk := make65
  have hcv := conv65
  have HP := Lib.hid (fun l e A c v w h he hl => pairs_any l e A c v w h he hl)
  have HIt := Lib.hid (fun t v w h hn => items_any t v w h hn)
  have HML := Lib.hid (fun l e A c v w (h : TsA w A l) (he : TA w e v) hl => (mlist_at (· < w.heap.size) l e A c v w (fun _ h => h) h he hl).mono fun _ _ h => h.told)
  have HN := Lib.hid (fun n w => num_val n w)
  have HS := Lib.hid (fun n w => sym_val n w)
  have HO := Lib.hid (fun w => none_val w)
  have HA := Lib.hid (fun w => awake_any w)
  have HRf := Lib.hid (fun t v w h hn hc => refused_any t v w h hn hc)
  go_enter Try.func6, Try.ntmps6
  go_wp2_with fail
  refine (HA.out _).mono ?_
  rintro e w1 ⟨rfl, hb1⟩
  have HB1 := Lib.hid hb1
  clear hb1
  go_wp2_with fail
  refine (HN.out _ _).mono ?_
  rintro e w2 ⟨rfl, hb2⟩
  have HB2 := Lib.hid (bnext HB1.out hb2)
  clear hb2
  go_wp2_with fail
  refine (HRf.out (tnum 576460752303423488) _ _ (num_leaf _ _ (by decide)) (nodes_leaf _ _ _) (chk_leaf (by decide))).mono ?_
  rintro e w3 ⟨rfl, hb3⟩
  have HB3 := Lib.hid (bnext HB2.out hb3)
  clear hb3
  go_wp2_with fail
  refine (HO.out _).mono ?_
  rintro e w4 ⟨rfl, hb4⟩
  have HB4 := Lib.hid (bnext HB3.out hb4)
  clear hb4
  go_wp2_with fail
  have h5 : TA (w4.alloc (.cells #[.int .i64 8, .int .i64 0, .string ⟨#[]⟩, .slice none 0 0] 24)) (.mk 9 0 ⟨#[]⟩ [tnil]) (.agg #[.int .i64 9, .int .i64 0, .string ⟨#[]⟩, .slice (some ⟨w4.heap.size, 0, none⟩) 1 1]) :=
    TAt.of (t := .mk 9 0 ⟨#[]⟩ [tnil]) ⟨wf9, wf0, se0, Nat.le_refl _, by simp [maxLen], fun h => by cases h⟩ ((lit_rowF (vs := [_]) (.cons (nil_leaf w4 (F := fun _ => False)) .nil) (fun b h => h.elim) (by simp [maxLen]) #[.int .i64 8, .int .i64 0, .string ⟨#[]⟩, .slice none 0 0] rfl).mono fun b hb => by rw [World.size_alloc]; rcases hb with hb | hb; exact hb.elim; omega)
  refine (HRf.out (.mk 9 0 ⟨#[]⟩ [tnil]) _ _ h5 (by simp [nodes_eq, tnil, nodesL_cons, nodesL_nil]) chk_one).mono ?_
  rintro e w5 ⟨rfl, hb5⟩
  have HB5 := Lib.hid (bnext (ballocs HB4.out _) hb5)
  clear hb5 h5
  go_wp2_with fail
  refine (HS.out _ _).mono ?_
  rintro e w6 ⟨rfl, hb6⟩
  have HB6 := Lib.hid (bnext (ballocs HB5.out _) hb6)
  clear hb6
  go_wp2_with fail
  refine (HRf.out (tsym big65) _ _ (sym_leaf _ _ (by rw [big_size]; decide)) (nodes_leaf _ _ _) (chk_leaf (by rw [big_size]; decide))).mono ?_
  rintro e w7 ⟨rfl, hb7⟩
  have HB7 := Lib.hid (bnext HB6.out hb7)
  clear hb7
  go_wp2_with fail
  refine (HRf.out (.mk 8 1 ⟨#[]⟩ []) _ _ (leafF _ 8 1 ⟨#[]⟩ (by decide) (by decide) (by decide)) (nodes_leaf _ _ _) (chk_leaf (by decide))).mono ?_
  rintro e w8 ⟨rfl, hb8⟩
  have HB8 := Lib.hid (bnext HB7.out hb8)
  clear hb8 hmk hcv
  go_wp2_with fail
  refine (HN.out _ _).mono ?_
  rintro e w9 ⟨rfl, hb9⟩
  have HB9 := Lib.hid (bnext HB8.out hb9)
  clear hb9
  have HR9 := Lib.hid (show TsA (w9.alloc (.cells #[.int .i64 1, .int .i64 1, .string ⟨#[]⟩, .slice none 0 0] 24)) (some ⟨w9.heap.size, 0, none⟩) [tnum 1] from
    (lit_rowF (vs := [_]) (.cons (num_leaf w9 1 (F := fun _ => False) (by decide)) .nil) (fun b h => h.elim) (by simp [maxLen]) #[.int .i64 1, .int .i64 1, .string ⟨#[]⟩, .slice none 0 0] rfl).mono fun b hb => by rw [World.size_alloc]; rcases hb with hb | hb; exact hb.elim; omega)
  go_wp2_with fail
  refine (HN.out _ _).mono ?_
  rintro e w10 ⟨rfl, hb10⟩
  have HB10 := Lib.hid (bnext (ballocs HB9.out _) hb10)
  have HR10 := Lib.hid (HR9.out.later hb10)
  clear hb10
  go_wp2_with fail
  refine (HP.out [tnum 1] (tnum 2) _ 1 _ _ HR10.out (num_leaf _ 2 (by decide)) (by simp [maxLen])).mono ?_
  rintro e w11 ⟨v11, rfl, ht11, hb11⟩
  have HB11 := Lib.hid (bnext HB10.out hb11)
  have HT11 := Lib.hid ht11
  clear hb11 ht11
  go_wp2_with fail
  refine (HIt.out _ _ _ HT11.out (by simp [tlist, tcons, tnum, nodes_eq, nodesL_cons, nodesL_nil])).mono ?_
  rintro e w12 ⟨v12, b12, rfl, rfl, hsl, hb12⟩
  rw [it_bad] at hsl ⊢
  obtain ⟨A12, c12, rfl, _⟩ := hsl
  have HB12 := Lib.hid (bnext HB11.out hb12)
  clear hb12
  simp only [Option.isSome_none, Option.getD_none, List.length_nil]
  go_wp2_with fail
  refine (HN.out _ _).mono ?_
  rintro e w13 ⟨rfl, hb13⟩
  have HB13 := Lib.hid (bnext HB12.out hb13)
  clear hb13
  go_wp2_with fail
  refine (HIt.out (tnum 5) _ _ (num_leaf _ 5 (by decide)) (nodes_leaf _ _ _)).mono ?_
  rintro e w14 ⟨v14, b14, rfl, rfl, hsl, hb14⟩
  rw [it_five] at hsl ⊢
  obtain ⟨A14, c14, rfl, _⟩ := hsl
  have HB14 := Lib.hid (bnext HB13.out hb14)
  clear hb14
  simp only [Option.isSome_none, Option.getD_none, List.length_nil]
  go_wp2_with fail
  refine (HN.out _ _).mono ?_
  rintro e w15 ⟨rfl, hb15⟩
  have HB15 := Lib.hid (bnext HB14.out hb15)
  clear hb15
  go_wp2_with fail
  refine (HN.out _ _).mono ?_
  rintro e w16 ⟨rfl, hb16⟩
  have HB16 := Lib.hid (bnext HB15.out hb16)
  clear hb16
  have HR16 := Lib.hid (show TsA (w16.alloc (.cells #[.int .i64 1, .int .i64 1, .string ⟨#[]⟩, .slice none 0 0, .int .i64 1, .int .i64 2, .string ⟨#[]⟩, .slice none 0 0] 24)) (some ⟨w16.heap.size, 0, none⟩) [tnum 1, tnum 2] from
    (lit2 (F := fun _ => False) (num_leaf w16 1 (by decide)) (num_leaf w16 2 (by decide)) (fun b h => h.elim)).mono fun b hb => by rw [World.size_alloc]; rcases hb with hb | hb; exact hb.elim; omega)
  go_wp2_with fail
  refine (HO.out _).mono ?_
  rintro e w17 ⟨rfl, hb17⟩
  have HB17 := Lib.hid (bnext (ballocs HB16.out _) hb17)
  have HR17 := Lib.hid (HR16.out.later hb17)
  clear hb17
  go_wp2_with fail
  refine (HML.out [tnum 1, tnum 2] tnil _ 2 _ _ HR17.out (nil_leaf _) (by simp [maxLen])).mono ?_
  rintro e w18 ⟨v18, rfl, ht18, hb18⟩
  have HB18 := Lib.hid (bnext HB17.out hb18)
  have HT18 := Lib.hid (show TA w18 twoT v18 from ht18)
  clear hb18 ht18
  go_wp2_with fail
  refine (HIt.out twoT _ _ HT18.out two_nodes).mono ?_
  rintro e w19 ⟨v19, b19, rfl, rfl, hsl, hb19⟩
  rw [two_items] at hsl ⊢
  obtain ⟨A19, c19, rfl, _⟩ := hsl
  have HB19 := Lib.hid (bnext HB18.out hb19)
  clear hb19
  simp only [Option.isSome_some, Option.getD_some, List.length_cons, List.length_nil, Nat.zero_add, Nat.reduceAdd]
  go_wp2_with fail
  refine (HN.out _ _).mono ?_
  rintro e w20 ⟨rfl, hb20⟩
  have HB20 := Lib.hid (bnext HB19.out hb20)
  clear hb20
  go_wp2_with fail
  refine (HML.out [] (tnum 7) none 0 _ _ (TsAt.nil _ _ _) (num_leaf _ 7 (by decide)) (by simp [maxLen])).mono ?_
  rintro e w21 ⟨v21, rfl, ht21, hb21⟩
  have HB21 := Lib.hid (bnext HB20.out hb21)
  have HT21 := Lib.hid (show TA w21 (tnum 7) v21 from ht21)
  clear hb21 ht21
  go_wp2_with fail
  refine (HN.out _ _).mono ?_
  rintro e w22 ⟨rfl, hb22⟩
  have HB22 := Lib.hid (bnext HB21.out hb22)
  have HT22 := Lib.hid (HT21.out.later hb22)
  clear hb22
  go_wp2_with fail
  refine (same_any (tnum 7) (tnum 7) _ _ _ HT22.out (num_leaf _ 7 (by decide)) (nodes_leaf _ _ _)).mono ?_
  rintro e w23 ⟨rfl, hb23⟩
  have HB23 := Lib.hid (bnext HB22.out hb23)
  rw [eqT_self]
  clear hb23
  go_wp2_with fail
  refine (two_any _).mono ?_
  rintro e w24 ⟨v24, rfl, ht24, hb24⟩
  have HB24 := Lib.hid (bnext HB23.out hb24)
  have HT24 := Lib.hid ht24
  clear hb24 ht24
  go_wp2_with fail
  refine (check_any twoT _ _ HT24.out two_nodes).mono ?_
  rintro e w25 ⟨rfl, hb25⟩
  have HB25 := Lib.hid (bnext HB24.out hb25)
  rw [chk_two]
  clear hb25
  go_wp2_with fail
  go_ret
  exact ⟨rfl, HB25.out⟩

theorem contract (W : World) : Calls Try.prog 6 #[] W fun e w' => e = .returned (.bool true) ∧ Below W.heap.size W w' := known W


theorem own : ownKnob Try.prog.godebug = none := by kernel_rfl
theorem laidOut : laidOutB Try.prog = true := by kernel_rfl
theorem readable : ∀ t ∈ Try.f6.params.toList, Try.prog.readableRec t = true ∧ t < Try.prog.types.size := by
  rw [show Try.f6.params = #[] from Try.params6]
  intro t h; simp at h
set_option maxRecDepth 100000 in
theorem lifted (os : Os) (started : os.Started) (H : Type) (enc : TypeId × Value → H) :
    ReturnsInHanded {} Try.checked os 6 .any (Rows.termKnownSpec.pre6 enc Try.prog Try.f6 Rows.termKnownRow.domain false) (Rows.termKnownSpec.post enc Try.prog Try.f6 false true false false) := by
  refine K.law_lift (C := Try.checked) (b := 4) own started (by kernel_rfl) Try.func6
    (ChangeSpec.witness6 (enc := enc) (C := Try.checked) false ⟨#[], #[], []⟩ 8 (by kernel_rfl) (by kernel_rfl) (by kernel_rfl) (by kernel_rfl)) laidOut readable rfl rfl Try.underlying4 ?_ ?_
  · intro ds hds
    rw [show Try.f6.params = #[] from Try.params6] at hds
    match ds, hds with
    | [], _ => rfl
  · intro W base args ds p hval hA hlt hsz
    rw [show Try.checked.prog = Try.prog from rfl] at hval hA hsz
    rw [show Try.f6.params = #[] from Try.params6] at hA hval hsz
    obtain ⟨hargs, rfl, rfl⟩ := trodAll_nil hA
    obtain rfl : args = #[] := by cases args; simp_all
    exact contract W

theorem over : Rows.termKnownRow.holds Try.pinned (OpenSpec.ofChange Rows.termKnownSpec) :=
  OpenClaim.holds_of_wide 6 Try.f6 rfl rfl rfl rfl rfl rfl rfl ⟨rfl, rfl, rfl, rfl, rfl⟩ rfl rfl rfl rfl rfl (by kernel_rfl) Try.func6 (by kernel_rfl)
    (of_decide_eq_true (by kernel_rfl)) (by unfold Func.isWrapper; rw [if_neg (of_decide_eq_false (by kernel_rfl))]; exact ⟨rfl, rfl⟩)
    (fun os started H enc _ => lifted os started H enc)

/-- THE STATEMENT -/
theorem proved : Rows.TermKnownSaid := over
#print axioms proved
end Go.Proofs.Ytiknelmaepkdkaa.TermKnown
