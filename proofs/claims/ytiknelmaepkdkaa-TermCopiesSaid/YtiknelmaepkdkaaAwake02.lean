/- tenurelaw02.awake: the chapter's examples, walked. -/
import Derived.Test.YtiknelmaepkdkaaTwo
import Derived.Test.YtiknelmaepkdkaaWords
import Derived.Test.YtiknelmaepkdkaaItems
import Derived.Test.YtiknelmaepkdkaaTmSame
namespace Go.Proofs.Ytiknelmaepkdkaa.K
open Go.RowKit
set_option linter.unusedVariables false
set_option linter.unusedSimpArgs false

theorem sameAll_any (l l' : List Tm) (A A' : Option Addr) (c c' : Nat) (w : World) (h : TsA w A l) (h' : TsA w A' l') (hl : l.length ≤ maxLen) (hl' : l'.length ≤ maxLen) :
    Calls Try.prog 20 #[.slice A l.length c, .slice A' l'.length c'] w fun e w' => e = .returned (.bool (eqTs l l')) ∧ Below w.heap.size w w' := by
  have HC := Lib.hid (sameTerms_any l l' A A' c c' w h h' hl hl')
  clear h h' hl hl'
  go_enter Try.func20, Try.ntmps20
  go_wp2_with (first | (go_at_call 45; refine HC.out.mono ?_; rintro e w2 ⟨rfl, hb2⟩) | fail)
  go_ret
  exact ⟨rfl, hb2⟩
theorem two_items : items twoT = some [tnum 1, tnum 2] := by
  show items (.mk 9 0 _ [tnum 1, .mk 9 0 _ [tnum 2, tnil]]) = _
  rw [items_cons, items_cons]
  show Option.map _ (Option.map _ (items (.mk 8 0 _ []))) = _
  rw [items_end (by decide)]
  rfl
theorem two_wds : wds twoT = 5 := by
  simp [twoT, tlist, tcons, tnum, tnil, wds_eq, wdsL_cons, wdsL_nil, ownN, hasB]
theorem two_nodes : nodes twoT ≤ 1048576 := by
  simp [twoT, tlist, tcons, tnum, tnil, nodes_eq, nodesL_cons, nodesL_nil]
set_option maxRecDepth 100000 in
set_option maxHeartbeats 8000000 in
theorem awake_any (w : World) : Calls Try.prog 25 #[] w fun e w' => e = .returned (.bool true) ∧ Below w.heap.size w w' := by
  have HN := Lib.hid (fun n w => num_val n w)
  have HS := Lib.hid (fun n w => sym_val n w)
  have HT := Lib.hid (fun A m c w => tup_val A m c w)
  have HO := Lib.hid (fun w => two_any w)
  have HI := Lib.hid (fun v w (h : TA w twoT v) => items_any twoT v w h two_nodes)
  have HW := Lib.hid (fun t v w (h : TA w t v) (hn : nodes t ≤ 1048576) => words_any t v w h hn)
  go_enter Try.func25, Try.ntmps25
  go_wp2_with fail
  refine (HO.out _).mono ?_
  rintro e w1 ⟨v1, rfl, ht1, hb1⟩
  have HT1 := Lib.hid ht1
  have HB1 := Lib.hid hb1
  clear ht1 hb1
  go_wp2_with fail
  refine (HI.out _ _ HT1.out).mono ?_
  rintro e w2 ⟨v2, b2, rfl, rfl, hsl, hb2⟩
  rw [two_items] at hsl ⊢
  obtain ⟨A2, c2, rfl, hc2, hm2, hA2, hts⟩ := hsl
  have HTS := Lib.hid (show TsA w2 A2 [tnum 1, tnum 2] from hts)
  have HB2 := Lib.hid (bnext HB1.out hb2)
  clear hts hb2
  simp only [Option.isSome_some, Option.getD_some, List.length_cons, List.length_nil, Nat.zero_add, Nat.reduceAdd]
  go_wp2_with fail
  refine (HN.out _ _).mono ?_
  rintro e w3 ⟨rfl, hb3⟩
  have HTS3 := Lib.hid (HTS.out.later hb3)
  have HB3 := Lib.hid (bnext HB2.out hb3)
  clear hb3
  go_wp2_with fail
  refine (HW.out (tnum 5) _ _ (num_leaf _ 5 (by decide)) (by simp [nodes_eq, tnum, nodesL_nil])).mono ?_
  rintro e w4 ⟨rfl, hb4⟩
  have HTS4 := Lib.hid (HTS3.out.later hb4)
  have HB4 := Lib.hid (bnext HB3.out hb4)
  clear hb4
  rw [show wds (tnum 5) = 1 from by simp [wds_eq, tnum, ownN, hasB]]
  go_wp2_with fail
  refine (HS.out _ _).mono ?_
  rintro e w5 ⟨rfl, hb5⟩
  have HTS5 := Lib.hid (HTS4.out.later hb5)
  have HB5 := Lib.hid (bnext HB4.out hb5)
  clear hb5
  go_wp2_with fail
  refine (HN.out _ _).mono ?_
  rintro e w6 ⟨rfl, hb6⟩
  have HTS6 := Lib.hid (HTS5.out.later hb6)
  have HB6 := Lib.hid (bnext HB5.out hb6)
  clear hb6
  have HR6 := Lib.hid (show TsA (w6.alloc (.cells #[.int .i64 2, .int .i64 0, .string ⟨#[97]⟩, .slice none 0 0, .int .i64 1, .int .i64 1, .string ⟨#[]⟩, .slice none 0 0] 24)) (some ⟨w6.heap.size, 0, none⟩) [tsym ⟨#[97]⟩, tnum 1] from (lit2 (F := fun _ => False) (sym_leaf w6 ⟨#[97]⟩ (by decide)) (num_leaf w6 1 (by decide)) (fun b h => h.elim)).mono (fun b hb => by rcases hb with hb | hb; exact hb.elim; rw [World.size_alloc]; omega))
  have HTS6' := Lib.hid (HTS6.out.alloc (.cells #[.int .i64 2, .int .i64 0, .string ⟨#[97]⟩, .slice none 0 0, .int .i64 1, .int .i64 1, .string ⟨#[]⟩, .slice none 0 0] 24))
  have HB6' := Lib.hid (ballocs HB6.out (.cells #[.int .i64 2, .int .i64 0, .string ⟨#[97]⟩, .slice none 0 0, .int .i64 1, .int .i64 1, .string ⟨#[]⟩, .slice none 0 0] 24))
  go_wp2_with fail
  refine (HT.out _ _ _ _).mono ?_
  rintro e w7 ⟨rfl, hb7⟩
  have HTS7 := Lib.hid (HTS6'.out.later hb7)
  have HB7 := Lib.hid (bnext HB6'.out hb7)
  have HR7 := Lib.hid (HR6.out.later hb7)
  clear hb7
  go_wp2_with fail
  refine (HW.out (ttup [tsym ⟨#[97]⟩, tnum 1]) _ _ (ta_tup (c := 2) HR7.out (Nat.le_refl _) (by simp [maxLen]) (fun h => by cases h)) (by simp [nodes_eq, ttup, tsym, tnum, nodesL_cons, nodesL_nil])).mono ?_
  rintro e w8 ⟨rfl, hb8⟩
  have HTS8 := Lib.hid (HTS7.out.later hb8)
  have HB8 := Lib.hid (bnext HB7.out hb8)
  clear hb8
  rw [show wds (ttup [tsym ⟨#[97]⟩, tnum 1]) = 4 from by simp [wds_eq, ttup, tsym, tnum, ownN, hasB, wdsL_cons, wdsL_nil]]
  go_wp2_with fail
  refine (HO.out _).mono ?_
  rintro e w9 ⟨v9, rfl, ht9, hb9⟩
  have HTS9 := Lib.hid (HTS8.out.later hb9)
  have HB9 := Lib.hid (bnext HB8.out hb9)
  have HT9 := Lib.hid ht9
  clear hb9 ht9
  go_wp2_with fail
  refine (HW.out twoT _ _ HT9.out two_nodes).mono ?_
  rintro e w10 ⟨rfl, hb10⟩
  have HTS10 := Lib.hid (HTS9.out.later hb10)
  have HB10 := Lib.hid (bnext HB9.out hb10)
  clear hb10
  rw [two_wds]
  go_wp2_with fail
  refine (HN.out _ _).mono ?_
  rintro e w11 ⟨rfl, hb11⟩
  have HTS11 := Lib.hid (HTS10.out.later hb11)
  have HB11 := Lib.hid (bnext HB10.out hb11)
  clear hb11
  go_wp2_with fail
  refine (HN.out _ _).mono ?_
  rintro e w12 ⟨rfl, hb12⟩
  have HTS12 := Lib.hid (HTS11.out.later hb12)
  have HB12 := Lib.hid (bnext HB11.out hb12)
  clear hb12
  have HR12 := Lib.hid (show TsA (w12.alloc (.cells #[.int .i64 1, .int .i64 1, .string ⟨#[]⟩, .slice none 0 0, .int .i64 1, .int .i64 2, .string ⟨#[]⟩, .slice none 0 0] 24)) (some ⟨w12.heap.size, 0, none⟩) [tnum 1, tnum 2] from (lit2 (F := fun _ => False) (num_leaf w12 1 (by decide)) (num_leaf w12 2 (by decide)) (fun b h => h.elim)).mono (fun b hb => by rcases hb with hb | hb; exact hb.elim; rw [World.size_alloc]; omega))
  have HTS12' := Lib.hid (HTS12.out.alloc (.cells #[.int .i64 1, .int .i64 1, .string ⟨#[]⟩, .slice none 0 0, .int .i64 1, .int .i64 2, .string ⟨#[]⟩, .slice none 0 0] 24))
  have HB12' := Lib.hid (ballocs HB12.out (.cells #[.int .i64 1, .int .i64 1, .string ⟨#[]⟩, .slice none 0 0, .int .i64 1, .int .i64 2, .string ⟨#[]⟩, .slice none 0 0] 24))
  go_wp2_with fail
  refine (sameAll_any [tnum 1, tnum 2] [tnum 1, tnum 2] _ _ c2 2 _ HTS12'.out HR12.out (by simp [maxLen]) (by simp [maxLen])).mono ?_
  rintro e w13 ⟨rfl, hb13⟩
  rw [eqTs_iff.2 rfl]
  have HB13 := Lib.hid (bnext HB12'.out hb13)
  clear hb13
  go_wp2_with fail
  go_ret
  exact ⟨rfl, HB13.out⟩
end Go.Proofs.Ytiknelmaepkdkaa.K
