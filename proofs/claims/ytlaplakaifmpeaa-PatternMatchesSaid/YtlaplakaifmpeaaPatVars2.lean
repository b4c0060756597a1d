/- pattern.Vars, by its contract. -/
import Derived.Test.YtlaplakaifmpeaaPatVars
namespace Go.Proofs.Ytlaplakaifmpeaa.Pt
open Go.RowKit K Go.Shelf
set_option linter.unusedVariables false
set_option linter.unusedSimpArgs false
attribute [local go_sem] Oper.semAt_some

theorem partsF_any (k n9 : Int) (s : ByteArray) (A : Option Addr) (m c : Nat) (w : World) (n : Nat) :
    CallsIn Fence.wide n Try.prog 56 #[.agg #[.int .i64 k, .int .i64 n9, .string s, .slice A m c]] w fun e w' => e = .returned (.func (.func 69) #[] #[.pointer (some ⟨w.heap.size, 0, none⟩)]) ∧ w' = w.alloc (.cells #[.int .i64 k, .int .i64 n9, .string s, .slice A m c] 24) := by
  refine callsIn_of_wp Try.func56 rfl trivial ?_ rfl
  simp only [Try.ntmps56, List.size_toArray, List.length_cons, List.length_nil, Nat.reduceAdd, Nat.reduceSub, Array.replicate_succ, Array.replicate_zero, List.push_toArray, List.append_toArray, List.nil_append, List.cons_append]
  gi_wp2
  go_ret
  exact ⟨rfl, rfl⟩
/-- A set lies at block g: just these. -/
def SetI (W : World) (g : Nat) (S : Nat → Bool) : Prop := ∃ lo hi : Nat, (lo < 18446744073709551616 ∧ hi < 18446744073709551616) ∧ W.cell? ⟨g, 0, none⟩ = some (.int .u64 (lo : Int)) ∧ W.cell? ⟨g, 1, none⟩ = some (.int .u64 (hi : Int)) ∧ W.frozen? ⟨g, 0, none⟩ = false ∧ W.frozen? ⟨g, 1, none⟩ = false ∧ ∀ m, m < 100 → hasB lo hi m = S m
section
variable {W W' : World} {g : Nat} {S S' : Nat → Bool} {F : Nat → Prop}
theorem SetI.lt (h : SetI W g S) : g < W.heap.size := by obtain ⟨lo, hi, _, c0, _⟩ := h; exact World.block_lt_of_cell? _ _ c0
theorem SetI.keep (h : SetI W g S) (hk : Keep F W W') (hg : ¬ F g) : SetI W' g S := by
  have hl := h.lt
  obtain ⟨lo, hi, hb, c0, c1, f0, f1, hS⟩ := h
  exact ⟨lo, hi, hb, (hk.cell (p := ⟨g, 0, none⟩) hl hg).trans c0, (hk.cell (p := ⟨g, 1, none⟩) hl hg).trans c1, (hk.frozen (p := ⟨g, 0, none⟩) hl hg).trans f0, (hk.frozen (p := ⟨g, 1, none⟩) hl hg).trans f1, hS⟩
theorem SetI.later (h : SetI W g S) (hb : Below W.heap.size W W') : SetI W' g S := h.keep (F := fun _ => False) (Keep.new hb) (fun h => h)
theorem SetI.congr (h : SetI W g S) (hS : ∀ m, m < 100 → S m = S' m) : SetI W g S' := by
  obtain ⟨lo, hi, hb, c0, c1, f0, f1, h2⟩ := h
  exact ⟨lo, hi, hb, c0, c1, f0, f1, fun m hm => (h2 m hm).trans (hS m hm)⟩
theorem SetI.has (h : SetI W g S) {n : Nat} (hn : n < 100) : Calls Try.prog 53 #[.pointer (some ⟨g, 0, none⟩), .int .i64 (n : Int)] W fun e w' => e = .returned (.bool (S n)) ∧ W = w' := by
  obtain ⟨lo, hi, ⟨hlo, hhi⟩, c0, c1, f0, f1, hS⟩ := h
  rw [← hS n hn]
  exact has_any g lo hi n W hn hlo hhi c0 c1
theorem SetI.add (h : SetI W g S) {n : Nat} (hn : n < 100) : Calls Try.prog 57 #[.pointer (some ⟨g, 0, none⟩), .int .i64 (n : Int)] W fun e w' => e = .returned (.tuple #[]) ∧ SetI w' g (fun m => decide (m = n) || S m) ∧ Keep (fun k => k = g) W w' ∧ (∀ i, 2 ≤ i → w'.cell? ⟨g, i, none⟩ = W.cell? ⟨g, i, none⟩) ∧ (∀ p, w'.frozen? p = W.frozen? p) ∧ w'.heap.size = W.heap.size := by
  obtain ⟨lo, hi, ⟨hlo, hhi⟩, c0, c1, f0, f1, hS⟩ := h
  refine (add_any g lo hi n W hn hlo hhi c0 c1 f0 f1).mono ?_
  rintro e w' ⟨rfl, lo', hi', hb, hS', d0, d1, hc, hf, hk, hz⟩
  exact ⟨rfl, ⟨lo', hi', hb, d0, d1, (hf _).trans f0, (hf _).trans f1, fun m hm => by rw [hS' m hm, hS m hm]⟩, hk, hc, hf, hz⟩
end
def isVar (u : Tm) : Option Nat := if u.k = 2 then numS u.s else none
def varIn (L : List Tm) (n : Nat) : Bool := L.any fun u => decide (isVar u = some n)
def varsUp (S : Nat → Bool) (j : Nat) : List Int := List.map (fun n : Nat => (n : Int)) ((List.range j).filter S)
theorem varsUp_succ (S : Nat → Bool) (j : Nat) : varsUp S (j + 1) = varsUp S j ++ if S j = true then [(j : Int)] else [] := by
  unfold varsUp
  rw [List.range_succ, List.filter_append, List.map_append]
  congr 1
  by_cases h : S j = true
  · simp [h]
  · simp [h]
theorem varsUp_len (S : Nat → Bool) (j : Nat) : (varsUp S j).length ≤ j := by
  unfold varsUp
  rw [List.length_map]
  exact Nat.le_trans (List.length_filter_le _ _) (by simp)
def varsT (t : Tm) : List Int := varsUp (varIn (rleafs t)) 100
theorem varIn_snoc (L : List Tm) (u : Tm) (n : Nat) : varIn (L ++ [u]) n = (decide (isVar u = some n) || varIn L n) := by
  unfold varIn
  rw [List.any_append, Bool.or_comm]
  simp
theorem infoInt16 : (Try.prog.info? 3).map (fun i => (i.zero, i.size, i.bytes)) = some (some (.int .i64 0), 1, 8) := by kernel_rfl
theorem pt_parts {x : Tm × TV} {W : World} {F : Nat → Prop} (h : TAt W F x.1 x.2.val) : x.2.k = x.1.k ∧ x.2.s = x.1.s ∧ x.2.s.size ≤ maxLen := by
  obtain ⟨A, c, e, ok, _⟩ := h.inv
  unfold TV.val tv at e
  injection e with e
  simp only [Array.mk.injEq, List.cons.injEq, Value.int.injEq, true_and, Value.string.injEq] at e
  exact ⟨e.1, e.2.2.1, by rw [e.2.2.1]; exact ok.ws⟩
set_option maxRecDepth 100000 in
set_option maxHeartbeats 8000000 in
theorem vars_yes (t : Tm) (v : Value) (w : World) (h : TA w t v) (hn : nodes t ≤ 1048576) (hm : mayT t = true) : Calls Try.prog 29 #[v] w fun e w' => ∃ A1 c1, e = .returned (.slice A1 (varsT t).length c1) ∧ w'.ownsRow w.heap.size 3 1 (.slice A1 (varsT t).length c1) (varsT t).length ((varsT t).map (Value.int .i64)) ∧ Below w.heap.size w w' := by
  have ht := h
  obtain ⟨k, n9, s, l, A, c, rfl, rfl, ok, hl⟩ := h.open_
  refine (callsIn_wide (n := 9)).1 ?_
  refine callsIn_of_wp_marks Try.func29 rfl trivial ?_ rfl
  simp only [Try.ntmps29, List.size_toArray, List.length_cons, List.length_nil, Nat.reduceAdd, Nat.reduceSub, Array.replicate_succ, Array.replicate_zero, List.push_toArray, List.append_toArray, List.nil_append, List.cons_append]
  obtain ⟨W1, hW1⟩ : ∃ W1, w.alloc (.cells #[.int .i64 k, .int .i64 n9, .string s, .slice A l.length c] 24) = W1 := ⟨_, rfl⟩
  have HB1 := Lib.hid (show Below w.heap.size w W1 from by rw [← hW1]; exact ballocs (Below.refl _ _) _)
  have HG := Lib.hid (show Blk W1 w.heap.size 24 #[.int .i64 k, .int .i64 n9, .string s, .slice A l.length c] from by rw [← hW1]; exact Blk.new _ _ _)
  have HC := Lib.hid (may_any _ _ W1 (ht.later HB1.out) hn)
  rw [hm] at HC
  have HW := Lib.hid hW1
  have HT := Lib.hid ht
  clear hW1 h ok hl hm ht
  gi_wp2_with (refine ⟨trivial, ?_⟩; first
    | (gi_at_call 41; rw [HW.out]; refine (callsIn_wide.2 HC.out).mono ?_; rintro e w2 ⟨rfl, hb2⟩; have HB2 := Lib.hid (bnext HB1.out hb2); have HG2 := Lib.hid (HG.out.below hb2 HG.out.lt); obtain ⟨p0, p1, p2, p3, _, _, _, _⟩ := HG2.out.four; obtain ⟨pe0, pe1, pe2, pe3, _, _, _, _⟩ := (HG2.out.alloc (.cells #[.int .u64 0, .int .u64 0] 64)).four; clear hb2)
    | (gi_at_call 56; refine (partsF_any _ _ _ _ _ _ _ _).mono ?_; rintro e w' ⟨rfl, rfl⟩))
  obtain ⟨W0, hW0⟩ : ∃ W0, (w2.alloc (.cells #[.int .u64 0, .int .u64 0] 64)).alloc (.cells #[.int .i64 k, .int .i64 n9, .string s, .slice A l.length c] 24) = W0 := ⟨_, rfl⟩
  have hz0 : W0.heap.size = w2.heap.size + 2 := by rw [← hW0]; simp
  have hz2 : w.heap.size < w2.heap.size := HG2.out.lt
  have hb0 : Below w.heap.size w W0 := by rw [← hW0]; exact ballocs (ballocs HB2.out _) _
  have hbx : Blk W0 (w2.heap.size + 1) 24 #[.int .i64 k, .int .i64 n9, .string s, .slice A l.length c] := by
    rw [← hW0]
    have := Blk.new (w2.alloc (.cells #[.int .u64 0, .int .u64 0] 64)) 24 #[.int .i64 k, .int .i64 n9, .string s, .slice A l.length c]
    simp only [World.size_alloc] at this
    exact this
  have hset : SetI W0 w2.heap.size (varIn []) := by
    have hs : Blk W0 w2.heap.size 64 #[.int .u64 0, .int .u64 0] := by rw [← hW0]; exact (Blk.new _ _ _).alloc _
    refine ⟨0, 0, by decide, by rw [hs.cell]; rfl, by rw [hs.cell]; rfl, hs.frozen _, hs.frozen _, fun m hm => ?_⟩
    unfold hasB varIn
    simp
  have ht := HT.out
  rw [hW0]
  clear hW0 p0 p1 p2 p3 pe0 pe1 pe2 pe3 HC HW HG
  refine wp_rangeB (n0 := w.heap.size) (N := nodes (.mk k n9 s l)) (encs := ptEnc) (Ok := fun x => TAt w (· < w.heap.size) x.1 x.2.val) (S := fun xs => xs.map (·.1) = rleafs (.mk k n9 s l)) (Sp := fun xs => ∃ r, xs.map (·.1) ++ r = rleafs (.mk k n9 s l)) rfl (enters_of Try.func69 (by kernel_rfl) rfl) hb0.size
    (fun W hb hz => (leafs1_in (.mk k n9 s l) _ (w2.heap.size + 1) w.heap.size (W0.heap.size + 2) W hn (by omega) (by omega) ((TAt.under ht hb0 (fun _ h => h)).under hb (fun b hb' => by omega)) (fun k' n' s' A' m' c' e => by
      injection e with e
      simp only [Array.mk.injEq, List.cons.injEq, and_true] at e
      obtain ⟨e0, e1, e2, e3⟩ := e
      rw [← e0, ← e1, ← e2, ← e3]
      exact hbx.below hb (by omega))).ok (fun x hx => hx.keep fun p hp => ((hb0.trans (hb.mono (by omega))).cell hp).symm)) (fun _ => rfl)
    (fun pre W => SetI W w2.heap.size (varIn (pre.map (·.1))) ∧ Below w.heap.size w W)
    (fun c pre W => False)
    (fun pre X Y hI hb => ⟨hI.1.keep (F := fun k => W0.heap.size ≤ k) (Keep.of_below hb (fun i _ h => h)) (by omega), hI.2.trans (hb.mono (by omega))⟩)
    (fun c pre X Y hI hb => hI)
    ⟨hset, hb0⟩
    (fun x a' X => ∃ Bx, w.heap.size ≤ Bx ∧ Blk X Bx 24 #[.int .i64 x.2.k, .int .i64 x.2.n, .string x.2.s, .slice x.2.A x.2.m x.2.c] ∧ a' = { tmps := #[.agg #[.int .i64 k, .int .i64 n9, .string s, .slice A l.length c], .pointer (some ⟨w.heap.size, 0, none⟩), .slice none 0 0, .pointer (some ⟨w2.heap.size, 0, none⟩), .pointer (some ⟨Bx, 0, none⟩), undef, undef, undef, undef, .agg #[.int .i64 k, .int .i64 n9, .string s, .slice A l.length c], .bool true, .bool false, .agg #[.int .i64 k, .int .i64 n9, .string s, .slice A l.length c], .func (.func 69) #[] #[.pointer (some ⟨w2.heap.size + 1, 0, none⟩)], x.2.val, undef, undef, undef, undef, undef, undef, undef, undef, undef, undef, undef, undef, undef, undef, undef, undef, undef, undef, undef, undef, undef, undef, undef, undef, undef], defers := [] })
    (fun x a' X Y hx hr hk => by
      obtain ⟨Bx, h1, h2, h3⟩ := hx
      obtain ⟨r, hr⟩ := hr
      refine ⟨Bx, h1, (hk Bx (fun e => ?_)).trans h2, h3⟩
      unfold Blk at h2
      rw [e, hr] at h2
      cases h2)
    ?assign ?body ?done ?stop
  case assign =>
    rintro l9 x Wx K9 hz9 hK9
    simp only [ptEnc, TV.val]
    gi_wp2
    exact hK9 _ _ ((Below.refl _ _).alloc (Nat.le_refl _) _) ⟨Wx.heap.size, by omega, Blk.new _ _ _, rfl⟩
  case body =>
    rintro l9 pre x a9 Wx ⟨hI1, hI4⟩ ⟨Bx, hBx, hX, rfl⟩ hlt hok hz9
    obtain ⟨hxk, hxs, hxl⟩ := pt_parts hok
    obtain ⟨z0, z1, z2, z3, _, _, _, _⟩ := hX.four
    have HX := Lib.hid hX; have H1 := Lib.hid hI1; have H4 := Lib.hid hI4
    have HNS := Lib.hid (number_any x.2.s hxl Wx)
    have hsz := hI4.size
    have HLT1 := Lib.hid hI1.lt
    obtain ⟨xk, hxk2⟩ : ∃ z, x.2.k = z := ⟨_, rfl⟩
    have HV := Lib.hid (show isVar x.1 = if xk = 2 then numS x.2.s else none from by unfold isVar; rw [← hxk, ← hxs, hxk2])
    unfold TV.val
    rw [hxk2] at z0 HX ⊢
    clear hX hI1 hI4 hok hlt hxk hxs hxk2
    cases hns : numS x.2.s with
    | none =>
      rw [hns] at HNS HV
      unfold numV at HNS
      have HV2 := Lib.hid (show isVar x.1 = none from by rw [HV.out]; split <;> rfl)
      clear hns
      gi_wp2_with (refine ⟨trivial, ?_⟩; gi_at_call 55; refine (CallsIn.inRound l9 (callsIn_wide.2 HNS.out)).mono ?_; rintro e W3 ⟨rfl, hb1⟩; have HBB := Lib.hid hb1; clear hb1)
      refine ⟨Keep.new HBB.out, (H1.out.later HBB.out).congr (fun m _ => ?_), H4.out.trans (HBB.out.mono (by omega))⟩
      rw [List.map_append, List.map_cons, List.map_nil, varIn_snoc, HV2.out]
      simp
    | some q =>
      rw [hns] at HNS HV
      unfold numV at HNS
      have hq : q < 100 := numL_lt hns
      clear hns
      by_cases h2 : xk = 2
      · subst h2
        have HV2 := Lib.hid (show isVar x.1 = some q from by rw [HV.out, if_pos rfl])
        gi_wp2_with (refine ⟨trivial, ?_⟩; first
          | (gi_at_call 55; refine (CallsIn.inRound l9 (callsIn_wide.2 HNS.out)).mono ?_; rintro e W3 ⟨rfl, hb1⟩; have HBB := Lib.hid hb1; obtain ⟨y0, _, _, _, _, _, _, _⟩ := (HX.out.below hb1 HX.out.lt).four; clear hb1)
          | (gi_at_call 57; refine (CallsIn.inRound l9 (callsIn_wide.2 ((H1.out.later HBB.out).add hq))).mono ?_; rintro e W4 ⟨rfl, hs4, hk4, _, _, _⟩; have HS4 := Lib.hid hs4; have HK4 := Lib.hid hk4; clear hs4 hk4))
        have hg4 := HLT1.out
        refine ⟨(Keep.new HBB.out).trans HK4.out (fun i _ e => by subst e; exact ⟨by omega, by omega⟩), HS4.out.congr (fun m _ => ?_), (H4.out.trans (HBB.out.mono (by omega))).trans (HK4.out.to_below (by have := HBB.out.size; omega) (fun i _ e => by subst e; omega))⟩
        rw [List.map_append, List.map_cons, List.map_nil, varIn_snoc, HV2.out]
        congr 1
        rw [decide_eq_decide]
        constructor
        · intro e; rw [e]
        · intro e; injection e with e; exact e.symm
      · have hxb : (xk == 2) = false := by rw [beq_eq_false_iff_ne]; exact h2
        have HV2 := Lib.hid (show isVar x.1 = none from by rw [HV.out, if_neg h2])
        clear h2
        gi_wp2_with (refine ⟨trivial, ?_⟩; gi_at_call 55; refine (CallsIn.inRound l9 (callsIn_wide.2 HNS.out)).mono ?_; rintro e W3 ⟨rfl, hb1⟩; have HBB := Lib.hid hb1; obtain ⟨y0, _, _, _, _, _, _, _⟩ := (HX.out.below hb1 HX.out.lt).four; clear hb1)
        refine ⟨Keep.new HBB.out, (H1.out.later HBB.out).congr (fun m _ => ?_), H4.out.trans (HBB.out.mono (by omega))⟩
        rw [List.map_append, List.map_cons, List.map_nil, varIn_snoc, HV2.out]
        simp
  case stop =>
    rintro D cj pre Wd hD hr hF hdf
    exact hF.elim
  case done =>
    rintro D xs Wd hD hxs ⟨hI1, hI4⟩ hdf
    rw [hxs] at hI1
    obtain ⟨S, hS⟩ : ∃ S, varIn (rleafs (.mk k n9 s l)) = S := ⟨_, rfl⟩
    rw [hS] at hI1
    have HVT := Lib.hid (show varsT (.mk k n9 s l) = varsUp S 100 from by unfold varsT; rw [hS])
    have HI1 := Lib.hid hI1; have HI4 := Lib.hid hI4; have HDF := Lib.hid hdf
    clear hI1 hI4 hdf hS hxs
    obtain ⟨i0, hi, hz0', hz1', hz2'⟩ := info_parts infoInt16
    gi_wp2
    refine wpIn_wide.2 ?_
    go_loopw [7, 29] (fun x y wr => ∃ j : Nat, j ≤ 100 ∧ y = .int .i64 (j : Int) ∧ wr.ownsRow Wd.heap.size 3 1 x (varsUp S j).length ((varsUp S j).map (Value.int .i64)) ∧ SetI wr w2.heap.size S ∧ Below w.heap.size w wr ∧ wr.heap[D]? = some (.deferred (some [])) ∧ Wd.heap.size ≤ wr.heap.size) (fun _ y _ => 100 - (intOf y).toNat)
    case atStart => exact ⟨0, by omega, rfl, World.ownsRow_nil _ _ _ _, HI1.out, HI4.out, HDF.out, Nat.le_refl _⟩
    case round =>
      obtain ⟨j, hj, rfl, hrow, hset, hbl, hdf, hbw⟩ := hrel
      obtain ⟨A3, c3, rfl, _, _⟩ := ownsRow_form hrow
      have HROW := Lib.hid hrow; have HSET := Lib.hid hset; have HBL := Lib.hid hbl; have HDF2 := Lib.hid hdf
      clear hrow hset hbl hdf
      have hvl := varsUp_len S j
      obtain ⟨m, hm⟩ : ∃ m, (varsUp S j).length = m := ⟨_, rfl⟩
      rw [hm] at hvl ⊢
      have HML := Lib.hid hm
      by_cases hlt : j < 100
      · have HHAS := Lib.hid (HSET.out.has hlt)
        have hsu := varsUp_succ S j
        clear hm
        cases hsj : S j with
        | false =>
          rw [hsj] at HHAS hsu
          have HSU := Lib.hid hsu
          clear hsu hsj
          go_wp2_with (first | (go_at_call 53; refine HHAS.out.mono ?_; rintro e w' ⟨rfl, rfl⟩) | fail)
          go_roundw
          case rel => exact ⟨j + 1, by omega, by go_num, by have := HSU.out; simp only [Bool.false_eq_true, if_false, List.append_nil] at this; rw [this, HML.out]; have h2 := HROW.out; rw [HML.out] at h2; exact h2, HSET.out, HBL.out, HDF2.out, hbw⟩
          case measure => simp [intOf]; omega
        | true =>
          rw [hsj] at HHAS hsu
          have hrow := HROW.out
          rw [HML.out] at hrow
          obtain ⟨v4, w4, hrun, hR4, hg4, _, hat4⟩ := run_append_own_at (P := Try.prog) (wr.alloc (.cells #[.int .i64 (j : Int)] 3)) Wd.heap.size 47 47 3 i0 _ 1 8 Try.underlying47 hi hz0' hz1' hz2' rfl (by decide) (.slice A3 m c3) m _ (hrow.alloc _)
            ⟨wr.heap.size, 0, none⟩ 1 1 [.int .i64 (j : Int)] rfl (fun q u hq => by
            rcases q with _ | q
            · simp at hq; subst hq
              simp [Addr.add]
            · simp at hq) (by simp [Value.oneCell']) (by unfold maxLen; omega) (by omega) (by simp; omega)
          obtain ⟨g4, c4, rfl, _, _⟩ := hR4.form (by omega)
          have hk4 : Keep (fun k => (Value.slice A3 m c3).ownBlock = some k) wr w4 := ((Keep.refl _ wr).alloc _).grown hg4 (fun k e => .inl e)
          have hne : ¬ (Value.slice A3 m c3).ownBlock = some w2.heap.size := fun e => by
            have := (hrow.lt _ e).1
            have := HI1.out.lt
            omega
          have hneD : ¬ (Value.slice A3 m c3).ownBlock = some D := fun e => by
            have := (hrow.lt _ e).1
            have := (Array.getElem?_eq_some_iff.1 HDF.out).1
            omega
          have hz4 := hk4.size
          have HD4 := Lib.hid ((hk4.block D (Nat.lt_of_lt_of_le (Array.getElem?_eq_some_iff.1 HDF.out).1 hbw) hneD).trans HDF2.out)
          have HRUN := Lib.hid hrun
          have HSU := Lib.hid hsu
          have HR4 := Lib.hid hR4
          have HS4 := Lib.hid (HSET.out.keep hk4 hne)
          have HB4 := Lib.hid (hk4.below HBL.out HBL.out.size (fun i hi e => by have := (hrow.lt i e).1; have := HI4.out.size; omega))
          clear hrun hR4 hg4 hat4 hk4 hne hneD hsu hsj hrow
          go_wp2_with (first
            | (go_at_call 53; refine HHAS.out.mono ?_; rintro e w' ⟨rfl, rfl⟩)
            | (at_builtin; refine wpList_append_run (o := ⟨some 37, _, _, _, _, _⟩) (.tmp 34) (.tmp 36) 47 _ _ _ HRUN.out rfl rfl (by simp [Act.eval, Act.put]) (by simp [Act.eval, Act.put]) ?_)
            | fail)
          refine ⟨⟨j + 1, by omega, by go_num, ?_, HS4.out, HB4.out, HD4.out, by omega⟩, by simp [intOf]; omega⟩
          have := HSU.out
          simp only [if_true] at this
          rw [this, List.length_append, HML.out, List.map_append]
          exact HR4.out
      · obtain rfl : j = 100 := by omega
        go_wp2_with fail
        have HBASE := Lib.hid (ownsRow_base (base' := w.heap.size) (show wr.ownsRow Wd.heap.size 3 1 (.slice A3 m c3) m ((varsUp S 100).map (Value.int .i64)) from by have := HROW.out; rwa [HML.out] at this) (fun r hr => Nat.le_trans HI4.out.size (by
          have h1 := HROW.out
          rw [HML.out] at h1
          exact (h1.lt r hr).1)))
        have HDL := Lib.hid (show w.heap.size ≤ D from by omega)
        clear hm
        gi_wp2
        refine leaves_marks [D] _ (by simp) (fun D' hD' => ?_) fun W' hk' => ?_
        · obtain rfl : D' = D := by simpa using hD'
          exact HDF2.out
        · refine ⟨.slice A3 m c3, by simp [results, Try.results29, go_sem], ?_⟩
          rw [HVT.out, HML.out]
          exact ⟨A3, c3, rfl, ownsRow_keep HBASE.out hk' (fun r hr e => by
            have h1 := HROW.out
            rw [HML.out] at h1
            have := (h1.lt r hr).1
            have := (Array.getElem?_eq_some_iff.1 HDF.out).1
            have : r = D := by simpa using e
            omega), HBL.out.trans (hk'.to_below HBL.out.size (fun i _ e => (show i = D from by simpa using e) ▸ HDL.out))⟩
end Go.Proofs.Ytlaplakaifmpeaa.Pt
