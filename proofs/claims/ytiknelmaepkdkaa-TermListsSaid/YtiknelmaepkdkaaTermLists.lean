/- The law TermLists returns true for all terms: a list that is made of terms and Nil has these as items, and one word, and of each item one more than that has. -/
import Derived.Test.YtiknelmaepkdkaaTermKnown
import Derived.Test.YtiknelmaepkdkaaOpenTs
namespace Go.Proofs.Ytiknelmaepkdkaa.TermLists
open Go.RowKit K
open Go.ChangeShapes Go.WideShapes Go.ChangeAt
set_option linter.unusedVariables false
set_option linter.unusedSimpArgs false

theorem items_list (l : List Tm) : items (tlist l tnil) = some l := by
  induction l with
  | nil => show items (.mk 8 0 _ []) = _; rw [items_end (by decide)]; rfl
  | cons a l ih => show items (.mk 9 0 _ [a, tlist l tnil]) = _; rw [items_cons, ih]; rfl
theorem wds_list (l : List Tm) : wds (tlist l tnil) = 1 + l.length + wdsL l := by
  induction l with
  | nil => simp [tlist, tnil, wds_eq, wdsL_nil, ownN, hasB]
  | cons a l ih =>
    show wds (.mk 9 0 _ [a, tlist l tnil]) = _
    rw [wds_mk, wdsL_cons, wdsL_cons, wdsL_nil, wdsL_cons, ih]
    simp [ownN, hasB]
    omega
theorem nodes_tl (l : List Tm) : nodes (tlist l tnil) = nodesL l + l.length + 1 := by rw [nodes_list]; simp [tnil, nodes_eq, nodesL_nil]
set_option maxRecDepth 100000 in
set_option maxHeartbeats 8000000 in
theorem walk (l : List Tm) (A : Option Addr) (c : Nat) (w : World) (h : TsA w A l) (hl : l.length ≤ maxLen) : Calls Try.prog 7 #[.slice A l.length c] w fun e w' => e = .returned (.bool true) ∧ Below w.heap.size w w' := by
  have HL := Lib.hid h
  have hll := hl
  unfold maxLen at hll
  have HK := Lib.hid (fun w => TermKnown.known w)
  have HLA := Lib.hid (fun w h => largeAll_any l 400 A c w (by omega) h hl)
  have HML := Lib.hid hl
  clear h hl
  by_cases h1 : largeB l 400 = true
  · go_enter Try.func7, Try.ntmps7
    go_wp2_with fail
    refine (HK.out _).mono ?_
    rintro e w1 ⟨rfl, hb1⟩
    have HB1 := Lib.hid hb1
    clear hb1
    go_wp2_with fail
    refine (HLA.out _ (HL.out.later HB1.out)).mono ?_
    rintro e w2 ⟨rfl, hb2⟩
    have HB2 := Lib.hid (bnext HB1.out hb2)
    rw [h1]
    clear hb2
    go_wp2_with fail
    go_ret
    exact ⟨rfl, HB2.out⟩
  · have h1' : largeB l 400 = false := by simpa using h1
    have hn := small_all h1' (show 400 ≤ 400 by omega)
    have hlen := Nat.le_trans (nodesL_len l) hn
    have hnt : nodes (tlist l tnil) ≤ 1048576 := by rw [nodes_tl]; omega
    have HMK := Lib.hid (fun v w (h : TsA w A l) (he : TA w tnil v) => (mlist_at (· < w.heap.size) l tnil A c v w (fun _ h => h) h he HML.out).mono fun _ _ h => h.told)
    have HIt := Lib.hid (fun v w h => items_any (tlist l tnil) v w h hnt)
    have HWd := Lib.hid (fun v w h => words_any (tlist l tnil) v w h hnt)
    have HWu := Lib.hid (fun (u : Tm) v w (hm : u ∈ l) h => words_any u v w h (Nat.le_trans (nodesL_mem hm) (Nat.le_trans hn (by omega))))
    have HSA := Lib.hid (fun A' c' w h h' => sameAll_any l l A' A c' c w h h' HML.out HML.out)
    rw [eqTs_self] at HSA
    have hwr := wdsL_range l
    have HWL := Lib.hid (wds_list l)
    clear h1 hnt
    go_enter Try.func7, Try.ntmps7
    go_wp2_with fail
    refine (HK.out _).mono ?_
    rintro e w1 ⟨rfl, hb1⟩
    have HB1 := Lib.hid hb1
    clear hb1
    go_wp2_with fail
    refine (HLA.out _ (HL.out.later HB1.out)).mono ?_
    rintro e w2 ⟨rfl, hb2⟩
    have HB2 := Lib.hid (bnext HB1.out hb2)
    rw [h1']
    clear hb2
    go_wp2_with fail
    refine (none_val _).mono ?_
    rintro e w3 ⟨rfl, hb3⟩
    have HB3 := Lib.hid (bnext HB2.out hb3)
    clear hb3
    go_wp2_with fail
    refine (HMK.out _ _ (HL.out.later HB3.out) (nil_leaf _)).mono ?_
    rintro e w4 ⟨v4, rfl, ht4, hb4⟩
    obtain ⟨A4, c4, hv4, _⟩ := ht4.inv
    obtain ⟨tk, tn, ts, tl, hT⟩ : ∃ k n s tl, tlist l tnil = .mk k n s tl := ⟨_, _, _, _, (Tm.eta _).symm⟩
    rw [hT] at ht4 HIt HWd HWL hv4
    unfold tv at hv4
    dsimp only [Tm.k_mk, Tm.n_mk, Tm.s_mk, Tm.l_mk] at hv4
    subst hv4
    have HB4 := Lib.hid (bnext HB3.out hb4)
    obtain ⟨w5, hw5⟩ : ∃ w5, w4.alloc (.cells #[.int .i64 tk, .int .i64 tn, .string ts, .slice A4 tl.length c4] 24) = w5 := ⟨_, rfl⟩
    have HB5 := Lib.hid (show Below w.heap.size w w5 from by rw [← hw5]; exact ballocs HB4.out _)
    have HG5 := Lib.hid (show Blk w5 w4.heap.size 24 #[.int .i64 tk, .int .i64 tn, .string ts, .slice A4 tl.length c4] from by rw [← hw5]; exact Blk.new _ _ _)
    have HT5 := Lib.hid (show TA w5 (.mk tk tn ts tl) (.agg #[.int .i64 tk, .int .i64 tn, .string ts, .slice A4 tl.length c4]) from by rw [← hw5]; exact ht4.later (ballocs (Below.refl w4.heap.size w4) _))
    have HW5 := Lib.hid hw5
    clear hb4 ht4 hw5
    go_wp2_with fail
    rw [HW5.out]
    refine (HIt.out _ _ HT5.out).mono ?_
    rintro e w6 ⟨v6, b6, rfl, rfl, hsl, hb6⟩
    rw [← hT, items_list] at hsl ⊢
    obtain ⟨A6, c6, rfl, _, _, _, hts⟩ := hsl
    have HS6 := Lib.hid (show TsA w6 A6 l from hts)
    have HB6 := Lib.hid (bnext HB5.out hb6)
    have HG6 := Lib.hid (HG5.out.below hb6 HG5.out.lt)
    have HT6 := Lib.hid (HT5.out.later hb6)
    have HTT := Lib.hid hT
    clear hb6 hts hT
    simp only [Option.isSome_some, Option.getD_some]
    go_wp2_with fail
    go_loopw [7, 8] (fun s i wr => ∃ k : Nat, k ≤ l.length ∧ i = .int .i64 (k : Int) ∧ s = .int .i64 (1 + (k : Int) + wdsL (l.take k)) ∧ Below w6.heap.size w6 wr) (fun _ i _ => l.length - (intOf i).toNat)
    case atStart => exact ⟨0, Nat.zero_le _, rfl, by simp [wdsL_nil], Below.refl _ _⟩
    case round =>
      obtain ⟨k, hk, rfl, rfl, hb⟩ := hrel
      have HB := Lib.hid hb
      have hr1 := wdsL_range (l.take k)
      have hr2 := nodesL_take_le l k
      by_cases hlt : k < l.length
      · obtain ⟨u, hu⟩ : ∃ u, l[k]? = some u := ⟨_, List.getElem?_eq_getElem hlt⟩
        have HM := Lib.hid (List.mem_of_getElem? hu)
        have hw2 := wdsL_take_succ hu
        have hur := wds_range u
        have hun := nodesL_mem HM.out
        obtain ⟨b, o, A1, c1, rfl, hb1, d0, d1, d2, d3, hta, _⟩ := (HL.out.later (bnext HB6.out HB.out)).at_ hu
        have HTA := Lib.hid hta
        obtain ⟨x, hx⟩ : ∃ x, wdsL (l.take k) = x := ⟨_, rfl⟩
        obtain ⟨y, hy⟩ : ∃ y, wds u = y := ⟨_, rfl⟩
        rw [hx] at hr1 hw2 ⊢
        rw [hy] at hw2 hur
        have HC := HWu.out u _ _ HM.out HTA.out
        rw [hy] at HC
        have HW2 := Lib.hid hw2
        have HC2 := Lib.hid HC
        obtain ⟨y1, y2⟩ := hur
        obtain ⟨z1, z2⟩ := hr1
        have b1 : 0 ≤ x ∧ x ≤ 800 := by omega
        have b2 : 0 ≤ y ∧ y ≤ 800 := by omega
        obtain ⟨b3, b4⟩ := b1
        obtain ⟨b5, b6⟩ := b2
        clear hu hta hx hy hw2 HC hb z1 z2 y1 y2 hr2 hun
        go_wp2_with fail
        refine HC2.out.mono ?_
        rintro e w7 ⟨rfl, hb7⟩
        have HB7 := Lib.hid (bnext HB.out hb7)
        clear hb7
        go_wp2_with fail
        go_roundw
        case rel => exact ⟨k + 1, by omega, by go_num, by rw [HW2.out]; go_num, HB7.out⟩
        case measure => simp [intOf]; omega
      · obtain rfl : k = l.length := by omega
        rw [List.take_length]
        have HGr := Lib.hid (HG6.out.below HB.out HG6.out.lt)
        have HTr := Lib.hid (HT6.out.later HB.out)
        obtain ⟨x, hx⟩ : ∃ x, wdsL l = x := ⟨_, rfl⟩
        rw [hx] at HWL ⊢
        rw [HWL.out] at HWd
        clear hb hr1 hr2 hx
        go_wp2_with fail
        refine (HSA.out _ _ _ (HS6.out.later HB.out) (HL.out.later (bnext HB6.out HB.out))).mono ?_
        rintro e w7 ⟨rfl, hb7⟩
        have HB7 := Lib.hid (bnext HB.out hb7)
        have HG7 := Lib.hid (HGr.out.below hb7 HGr.out.lt)
        have HT7 := Lib.hid (HTr.out.later hb7)
        clear hb7
        obtain ⟨p0, p1, p2, p3, _, _, _, _⟩ := HG7.out.four
        go_wp2_with fail
        refine (HWd.out _ _ HT7.out).mono ?_
        rintro e w8 ⟨rfl, hb8⟩
        have HB8 := Lib.hid (bnext HB6.out (bnext HB7.out hb8))
        clear hb8
        go_wp2_with fail
        go_ret
        exact ⟨ret1_b (by simp), HB8.out⟩

theorem contract {H : Type} {enc : TypeId × Value → H} (W : World) {base : Nat} {r : Reach} {b : Nat} {hd : Bool} {v0 : Value} {d0 : DataW H} {p0 : List MemPlace}
    (o0 : Value.okWide Try.prog W r b 22 v0) (h0 : DataW.Trod enc Try.prog W base (fun _ => true) hd 22 v0 d0 p0) {Q R : Prop} (_ : Q) (_ : R) :
    Calls Try.prog 7 #[v0] W fun e w' => e = .returned (.bool true) ∧ Below W.heap.size W w' := by
  obtain ⟨A, c, l, rfl, hl, h4, h5, _⟩ := open_ts o0 h0
  exact walk l A c W hl (by omega)

theorem own : ownKnob Try.prog.godebug = none := by kernel_rfl
theorem laidOut : laidOutB Try.prog = true := by kernel_rfl
theorem readable : ∀ t ∈ Try.f7.params.toList, Try.prog.readableRec t = true ∧ t < Try.prog.types.size := by
  rw [show Try.f7.params = #[22] from Try.params7]
  intro t h
  simp only [List.mem_cons, List.not_mem_nil, or_false] at h
  subst h
  exact ⟨by kernel_rfl, of_decide_eq_true (by kernel_rfl)⟩
set_option maxRecDepth 100000 in
theorem lifted (os : Os) (started : os.Started) (H : Type) (enc : TypeId × Value → H) :
    ReturnsInHanded {} Try.checked os 7 .any (Rows.termListsSpec.pre6 enc Try.prog Try.f7 Rows.termListsRow.domain false) (Rows.termListsSpec.post enc Try.prog Try.f7 false true false false) := by
  refine K.law_lift (C := Try.checked) (b := 4) own started (by kernel_rfl) Try.func7
    (ChangeSpec.witness6 (enc := enc) (C := Try.checked) false ⟨#[], #[.slice none 0 0], []⟩ 8 (by kernel_rfl) (by kernel_rfl) (by kernel_rfl) (by kernel_rfl)) laidOut readable rfl rfl Try.underlying4 ?_ ?_
  · intro ds hds
    rw [show Try.f7.params = #[22] from Try.params7] at hds
    match ds, hds with
    | [d0], _ => rfl
  · intro W base args ds p hval hA hlt hsz
    rw [show Try.checked.prog = Try.prog from rfl] at hval hA hsz
    rw [show Try.f7.params = #[22] from Try.params7] at hA hval hsz
    obtain ⟨v0, vs0, d0, ds0, p0, q0, hargs, rfl, rfl, h0, r0⟩ := trodAll_cons hA
    obtain ⟨rfl, rfl, rfl⟩ := trodAll_nil r0
    obtain rfl : args = #[v0] := by cases args; simp_all
    exact contract W (hval 0 22 v0 rfl rfl) h0 (fun x hx => hlt x hx) hsz

theorem over : Rows.termListsRow.holds Try.pinned (OpenSpec.ofChange Rows.termListsSpec) :=
  OpenClaim.holds_of_wide 7 Try.f7 rfl rfl rfl rfl rfl rfl rfl ⟨rfl, rfl, rfl, rfl, rfl⟩ rfl rfl rfl rfl rfl (by kernel_rfl) Try.func7 (by kernel_rfl)
    (of_decide_eq_true (by kernel_rfl)) (by unfold Func.isWrapper; rw [if_neg (of_decide_eq_false (by kernel_rfl))]; exact ⟨rfl, rfl⟩)
    (fun os started H enc _ => lifted os started H enc)

/-- THE STATEMENT -/
theorem proved : Rows.TermListsSaid := over
#print axioms proved
end Go.Proofs.Ytiknelmaepkdkaa.TermLists
