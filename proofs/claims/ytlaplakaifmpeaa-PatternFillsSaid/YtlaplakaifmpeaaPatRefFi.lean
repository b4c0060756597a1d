/- tenureref16.fill, by its contract. tenureref16.Find and Fill, by contracts. -/
import Derived.Test.YtlaplakaifmpeaaPatRefF
import Derived.Test.YtlaplakaifmpeaaPatRefW
namespace Go.Proofs.Ytlaplakaifmpeaa.Pt
open Go.RowKit K Go.Shelf
set_option linter.unusedVariables false
set_option linter.unusedSimpArgs false
theorem rfillL_len {l l' : List Tm} {b : List Bnd} (h : rfillL l b = some l') : l'.length = l.length := by
  induction l generalizing l' with
  | nil => rw [rfillL_nil] at h; injection h with h; subst h; rfl
  | cons p r ih =>
    rw [rfillL_cons] at h
    cases hp : rfill p b with
    | none => rw [hp] at h; cases h
    | some t =>
      cases hr : rfillL r b with
      | none => rw [hp, hr] at h; cases h
      | some x => rw [hp, hr] at h; injection h with h; subst h; simp [ih hr]
/-- In the loop: i parts have been filled; the result's block g1, the term's block g2. -/
def FlJ (w : World) (N : Nat) (b : List Bnd) (k n : Int) (s : ByteArray) (l : List Tm) (g1 g2 i : Nat) (wr : World) : Prop :=
  ∃ row ls, rfillL (l.take i) b = some ls ∧ Blk wr g1 24 #[.int .i64 0, .int .i64 0, .string ⟨#[]⟩, .slice none 0 0] ∧
    Blk wr g2 24 #[.int .i64 k, .int .i64 n, .string s, row] ∧ TRow wr (g2 + 1) (fun b => b < N ∨ g2 + 1 ≤ b) row ls ∧ Below w.heap.size w wr
theorem FlJ.step {w wr w6 w3 : World} {N g1 g2 i c3 c5 : Nat} {b : List Bnd} {k n k6 m6 : Int} {s s6 : ByteArray} {l ls : List Tm} {A3 A5 A6 : Option Addr} {l6 c6 : Nat} {u t : Tm} {G : Nat → Prop} {vs : List Value} {o o' : Obj} (hN : N ≤ g1) (hw1 : w.heap.size ≤ g2) (h12 : g1 < g2)
    (hfl : rfillL (l.take i) b = some ls) (hu : l[i]? = some u) (ho : rfill u b = some t) (hg1 : Blk wr g1 24 #[.int .i64 0, .int .i64 0, .string ⟨#[]⟩, .slice none 0 0])
    (hbl : Below w.heap.size w wr) (hb6 : Below wr.heap.size wr w6) (hV : TsVs wr G ls vs) (hG : ∀ b, G b → b < wr.heap.size ∧ (b < N ∨ g2 + 1 ≤ b) ∧ (Value.slice A3 ls.length c3).ownBlock ≠ some b) (hRw : wr.ownsRow (g2 + 1) 24 4 (.slice A3 ls.length c3) ls.length (flat vs))
    (ht : TAt w6 (fun b => b < N ∨ Fr wr w6 b) t (.agg #[.int .i64 k6, .int .i64 m6, .string s6, .slice A6 l6 c6])) (hg2 : Blk w3 g2 24 #[.int .i64 k, .int .i64 n, .string s, .slice A3 ls.length c3])
    (hz2 : g2 < wr.heap.size)
    (hR3 : w3.ownsRow (g2 + 1) 24 4 (.slice A5 (ls.length + 1) c5) (ls.length + 1) (flat vs ++ [.int .i64 k6, .int .i64 m6, .string s6, .slice A6 l6 c6])) (hg3 : ((w6.alloc o).alloc o').grownBy w3 (Value.slice A3 ls.length c3).ownBlock)
    (hat3 : (Value.slice A5 (ls.length + 1) c5).ownBlock = (Value.slice A3 ls.length c3).ownBlock ∨ (Value.slice A5 (ls.length + 1) c5).ownBlock = some ((w6.alloc o).alloc o').heap.size) :
    FlJ w N b k n s l g1 g2 (i + 1) (w3.setCell ⟨g2, 3, none⟩ (.slice A5 (ls.length + 1) c5)) := by
  have hb67 : Below w6.heap.size w6 (w6.alloc o) := ballocs (Below.refl _ _) _
  have hb7 : Below wr.heap.size wr (w6.alloc o) := hb6.trans (hb67.mono hb6.size)
  have h6 := hb6.size
  have h7 := hb7.size
  have h67 := hb67.size
  have hT := TRow.snoc (w := w6.alloc o) (B := g2 + 1) (Q := fun b => b < N ∨ g2 + 1 ≤ b) (hV.keep fun p hp => hb7.cell (hG _ hp).1) (fun b hb => ⟨Nat.lt_of_lt_of_le (hG b hb).1 h7, (hG b hb).2⟩) (ht.keep (w' := w6.alloc o) fun p hp => hb67.cell (by rcases hp with hp | hp; omega; exact hp.2)) (fun b hb => ⟨by rcases hb with hb | hb; omega; exact Nat.lt_of_lt_of_le hb.2 h67, by rcases hb with hb | hb; exact .inl hb; exact .inr (by have := hb.1; omega), fun e => by
    have := hRw.lt b e
    rcases hb with hb | hb
    · omega
    · have := hb.1; omega⟩) hg3 hR3 hat3
  have hk : Keep (fun x => x = g2) w3 (w3.setCell ⟨g2, 3, none⟩ (.slice A5 (ls.length + 1) c5)) := (Keep.refl (fun x => x = g2) w3).setCell (p := ⟨g2, 3, none⟩) (.inl rfl) _
  have hrow3 : ∀ r, (Value.slice A3 ls.length c3).ownBlock = some r → g2 + 1 ≤ r := fun r hr => (hRw.lt r hr).1
  refine ⟨_, ls ++ [t], by rw [rfillL_snoc hu, hfl, ho]; rfl, ?_, ?_, trow_keepQ hT hk (fun b h e => by omega) (fun b h e => by rcases h with h | h <;> omega), ?_⟩
  · exact (((hg1.below hb7 hg1.lt).alloc o').grown hg3 (fun e => by have := hrow3 _ e.symm; omega)).far (by show g1 ≠ g2; omega) _
  · have := hg2.set_ 3 (.slice A5 (ls.length + 1) c5)
    simpa using this
  · have h1 : Below w.heap.size w ((w6.alloc o).alloc o') := ballocs (hbl.trans (hb7.mono hbl.size)) o'
    have h2 := (Keep.refl (fun x => w.heap.size ≤ x) ((w6.alloc o).alloc o')).grown hg3 (fun k h => .inl (by have := hrow3 _ h; omega))
    exact (Keep.below (F := fun x => w.heap.size ≤ x) h1 h2 (by have := h1.size; omega) (fun i h1 h2 => by omega)).setCell (p := ⟨g2, 3, none⟩) (by show w.heap.size ≤ g2; omega) _
theorem FlJ.done {w wr : World} {N g1 g2 c c5 : Nat} {b : List Bnd} {k n : Int} {s : ByteArray} {l ls : List Tm} {A A5 : Option Addr} (hN : N ≤ g1) (hw1 : w.heap.size ≤ g1) (h12 : g1 < g2) (hfl : rfillL l b = some ls) (ok : TOk (.mk k n s l) A c) (hrow : TRow wr (g2 + 1) (fun b => b < N ∨ g2 + 1 ≤ b) (.slice A5 ls.length c5) ls) (hbl : Below w.heap.size w wr) (hE : rfill (.mk k n s l) b = (rfillL l b).map fun l' => .mk k n s l') :
    RfPostN w N (rfill (.mk k n s l) b) (.returned (.tuple #[.agg #[.int .i64 k, .int .i64 n, .string s, .slice A5 ls.length c5], .bool true])) (put4 wr g1 (.int .i64 k) (.int .i64 n) (.string s) (.slice A5 ls.length c5)) := by
  have hk := put4_keep (Keep.refl (fun x => x = g1) wr) (g := g1) (.inl rfl) (.int .i64 k) (.int .i64 n) (.string s) (.slice A5 ls.length c5)
  have hr := trow_keepQ hrow hk (fun b h e => by omega) (fun b h e => by rcases h with h | h <;> omega)
  obtain ⟨A', c', e, h1, h2, h3, hts⟩ := hr.slAt (F := fun b => b < N ∨ Fr w (put4 wr g1 (.int .i64 k) (.int .i64 n) (.string s) (.slice A5 ls.length c5)) b) (fun b h1 h2 => by rcases h2 with h2 | h2; exact .inl h2; exact .inr ⟨by omega, h1⟩) (fun b h1 h2 => .inr ⟨by omega, h1⟩)
  injection e with e1 e2 e3
  subst e1 e3
  exact ⟨put4_below hbl hw1 _ _ _ _, .inr ⟨.mk k n s ls, A5, c5, by rw [hE, hfl]; rfl, rfl, TAt.of (t := .mk k n s ls) ⟨ok.wk, ok.wn, ok.ws, h1, h2, h3⟩ hts⟩⟩
def RFillC (p : Tm) : Prop := nodes p ≤ 1048576 → ∀ (vp : Value) (N : Nat) (b : List Bnd) (A : Option Addr) (c : Nat) (w : World), TAt w (· < N) p vp → BsAt w (· < N) A b → N ≤ w.heap.size → b.length ≤ 65536 →
  Calls Try.prog 51 #[vp, .slice A b.length c] w (RfPostN w N (rfill p b))
set_option maxRecDepth 100000 in
set_option maxHeartbeats 16000000 in
theorem rfill_any : ∀ p : Tm, RFillC p := by
  refine Tm.ind fun p ih hnp vp N b A c w hp hbs hNw hbl => ?_
  have hp0 := hp
  obtain ⟨Ap, cp, rfl, okp, hlp⟩ := hp.inv
  obtain ⟨k, n, s, l⟩ := p
  unfold tv at hp0 ⊢
  simp only [Tm.k_mk, Tm.n_mk, Tm.s_mk, Tm.l_mk] at hp0 ih hlp ⊢
  obtain ⟨W2, hW2⟩ : ∃ W2, (w.alloc (.cells #[.int .i64 k, .int .i64 n, .string s, .slice Ap l.length cp] 24)).alloc (.cells #[.int .i64 0, .int .i64 0, .string ⟨#[]⟩, .slice none 0 0] 24) = W2 := ⟨_, rfl⟩
  have hb2 : Below w.heap.size w W2 := by rw [← hW2]; exact ballocs (ballocs (Below.refl _ _) _) _
  have hgp : Blk W2 w.heap.size 24 #[.int .i64 k, .int .i64 n, .string s, .slice Ap l.length cp] := by rw [← hW2]; exact (Blk.new _ _ _).alloc _
  have hgr : Blk W2 (w.heap.size + 1) 24 #[.int .i64 0, .int .i64 0, .string ⟨#[]⟩, .slice none 0 0] := by
    rw [← hW2]
    have := Blk.new (w.alloc (.cells #[.int .i64 k, .int .i64 n, .string s, .slice Ap l.length cp] 24)) 24 #[.int .i64 0, .int .i64 0, .string ⟨#[]⟩, .slice none 0 0]
    simp only [World.size_alloc] at this
    exact this
  have HP := Lib.hid (show TAt W2 (· < N) (.mk k n s l) _ from hp0.keep fun q hq => hb2.cell (Nat.lt_of_lt_of_le hq hNw))
  have HLP := Lib.hid (show TsAt W2 (· < N) Ap l from hlp.keep fun q hq => hb2.cell (Nat.lt_of_lt_of_le hq hNw))
  have HBS := Lib.hid (show BsAt W2 (· < N) A b from hbs.keep fun q hq => hb2.cell (Nat.lt_of_lt_of_le hq hNw))
  have HGP := Lib.hid hgp; have HGR := Lib.hid hgr; have HB2 := Lib.hid hb2; have HW2 := Lib.hid hW2; have HOK := Lib.hid okp
  have hz2 : W2.heap.size = w.heap.size + 2 := by rw [← hW2]; simp
  have HIH := Lib.hid (fun u hu => ih u hu (by have := nodesL_mem hu; rw [nodes_mk] at hnp; omega))
  have HV := Lib.hid (rvar_any _ _ W2 (HP.out.mono fun b hb => Nat.lt_of_lt_of_le (Nat.lt_of_lt_of_le hb hNw) hb2.size) hnp)
  have HMK := Lib.hid (rfill_mk k n s l b)
  have hlen : l.length ≤ 1048576 := by have := nodesL_len l; rw [nodes_mk] at hnp; omega
  obtain ⟨p0, p1, p2, p3, _, _, _, _⟩ := hgp.four
  obtain ⟨q0, q1, q2, q3, t0, t1, t2, t3⟩ := hgr.four
  have HKP := Lib.hid (show ∀ wx, Below W2.heap.size W2 wx → BsAt wx (· < N) A b ∧ TsAt wx (· < N) Ap l ∧ TAt wx (· < N) (.mk k n s l) (.agg #[.int .i64 k, .int .i64 n, .string s, .slice Ap l.length cp]) from fun wx hx =>
    ⟨HBS.out.keep fun q hq => hx.cell (by have : q.block < N := hq; omega), HLP.out.keep fun q hq => hx.cell (by have : q.block < N := hq; omega), HP.out.keep fun q hq => hx.cell (by have : q.block < N := hq; omega)⟩)
  have HZ2 := Lib.hid hz2
  have HNW := Lib.hid hNw
  obtain ⟨i0, hin, hy0, hy1, hy2⟩ := info_parts infoT
  clear hp hp0 hbs okp hlp hb2 hgp hgr hW2 ih hnp
  have HRET := Lib.hid (show ∀ w', Below W2.heap.size W2 w' → rfill (.mk k n s l) b = some (.mk k n s l) → RfPostN w N (rfill (.mk k n s l) b) (.returned (.tuple #[.agg #[.int .i64 k, .int .i64 n, .string s, .slice Ap l.length cp], .bool true])) (put4 w' (w.heap.size + 1) (.int .i64 k) (.int .i64 n) (.string s) (.slice Ap l.length cp)) from fun w' h0 he =>
    ⟨put4_below (bnext HB2.out h0) (Nat.le_succ _) _ _ _ _, .inr ⟨_, Ap, cp, he, rfl, (((HKP.out w' h0).2.2).keep (w' := put4 w' (w.heap.size + 1) (.int .i64 k) (.int .i64 n) (.string s) (.slice Ap l.length cp)) (fun q hq => put4_cell _ _ _ _ _ _ q (fun e => by have : q.block < N := hq; omega))).mono fun b hb => .inl hb⟩⟩)
  have HNO := Lib.hid (show ∀ w', Below w.heap.size w w' → rfill (.mk k n s l) b = none → RfPostN w N (rfill (.mk k n s l) b) (.returned (.tuple #[.agg #[.int .i64 0, .int .i64 0, .string ⟨#[]⟩, .slice none 0 0], .bool false])) (put4 w' (w.heap.size + 1) (.int .i64 0) (.int .i64 0) (.string ⟨#[]⟩) (.slice none 0 0)) from fun w' h0 he => ⟨put4_below h0 (Nat.le_succ _) _ _ _ _, .inl ⟨he, rfl⟩⟩)
  cases hv : varT (.mk k n s l) with
  | some q =>
    rw [hv] at HV HMK
    unfold numV at HV
    simp only at HMK
    have HF := Lib.hid (fun wx (hx : Below W2.heap.size W2 wx) => findN_any N b (q : Int) A c wx (HKP.out wx hx).1 (by have := hx.size; omega) hbl)
    clear hv p0 p1 p2 p3 q0 q1 q2 q3 t0 t1 t2 t3 hz2
    go_enter Try.func51, Try.ntmps51
    go_wp2_with fail
    rw [HW2.out]
    refine HV.out.mono ?_
    rintro e w3 ⟨rfl, hb3⟩
    have HB3 := Lib.hid hb3
    clear hb3
    go_wp2_with fail
    refine (HF.out w3 HB3.out).mono ?_
    rintro e w4 ⟨hb4, hfd⟩
    have HB4 := Lib.hid (bnext HB3.out hb4)
    have HB4' := Lib.hid hb4
    rcases hfd with ⟨ho, rfl⟩ | ⟨u, Au, cu, ho, rfl, htu⟩
    · have HE := Lib.hid (show rfill (.mk k n s l) b = none from by rw [HMK.out, ho])
      have hg4 := (HGR.out.below HB4.out HGR.out.lt).alloc (.cells #[.int .i64 0, .int .i64 0, .string ⟨#[]⟩, .slice none 0 0] 24)
      obtain ⟨q0, q1, q2, q3, t0, t1, t2, t3⟩ := hg4.four
      have HG4 := Lib.hid hg4
      have HB5 := Lib.hid (ballocs (bnext HB2.out HB4.out) (.cells #[.int .i64 0, .int .i64 0, .string ⟨#[]⟩, .slice none 0 0] 24))
      clear hb4 ho hg4
      go_wp2_with fail
      obtain ⟨r0, r1, r2, r3, _, _, _, _⟩ := (put4_blk HG4.out (.int .i64 0) (.int .i64 0) (.string ⟨#[]⟩) (.slice none 0 0)).four
      unfold put4 at r0 r1 r2 r3
      exact bodyPost_ret (v := .tuple #[.agg #[.int .i64 0, .int .i64 0, .string ⟨#[]⟩, .slice none 0 0], .bool false]) (by simp [results, Try.results51, go_sem, r0, r1, r2, r3]) rfl (HNO.out _ HB5.out HE.out)
    · have HE := Lib.hid (show rfill (.mk k n s l) b = some u from by rw [HMK.out, ho])
      unfold tv at htu ⊢
      have hg4 := (HGR.out.below HB4.out HGR.out.lt).alloc (.cells #[.int .i64 u.k, .int .i64 u.n, .string u.s, .slice Au u.l.length cu] 24)
      obtain ⟨q0, q1, q2, q3, t0, t1, t2, t3⟩ := hg4.four
      obtain ⟨W5, hW5⟩ : ∃ W5, w4.alloc (.cells #[.int .i64 u.k, .int .i64 u.n, .string u.s, .slice Au u.l.length cu] 24) = W5 := ⟨_, rfl⟩
      have hgu : Blk W5 w4.heap.size 24 #[.int .i64 u.k, .int .i64 u.n, .string u.s, .slice Au u.l.length cu] := by rw [← hW5]; exact Blk.new _ _ _
      have hb5 : Below w4.heap.size w4 W5 := by rw [← hW5]; exact ballocs (Below.refl _ _) _
      have HG4 := Lib.hid hg4
      have HB5 := Lib.hid (bnext HB4.out hb5)
      have hsz3 := HB3.out.size
      have hzz := HZ2.out
      have hsz4 := hb4.size
      have HTU := Lib.hid (show TAt W5 (fun b => b < N ∨ Fr w3 W5 b) u (.agg #[.int .i64 u.k, .int .i64 u.n, .string u.s, .slice Au u.l.length cu]) from (htu.keep (w' := W5) fun p hp => hb5.cell (by rcases hp with hp | hp; omega; exact hp.2)).mono fun b hb => hb.imp id fun hb => ⟨hb.1, Nat.lt_of_lt_of_le hb.2 hb5.size⟩)
      obtain ⟨u0, u1, u2, u3, _, _, _, _⟩ := hgu.four
      clear hb4 ho hg4 hgu hb5 htu
      subst hW5
      go_wp2_with fail
      obtain ⟨r0, r1, r2, r3, _, _, _, _⟩ := (put4_blk HG4.out (.int .i64 u.k) (.int .i64 u.n) (.string u.s) (.slice Au u.l.length cu)).four
      unfold put4 at r0 r1 r2 r3
      refine bodyPost_ret (v := .tuple #[.agg #[.int .i64 u.k, .int .i64 u.n, .string u.s, .slice Au u.l.length cu], .bool true]) (by simp [results, Try.results51, go_sem, r0, r1, r2, r3]) rfl ?_
      have hz := put4_size (w4.alloc (.cells #[.int .i64 u.k, .int .i64 u.n, .string u.s, .slice Au u.l.length cu] 24)) (w.heap.size + 1) (.int .i64 u.k) (.int .i64 u.n) (.string u.s) (.slice Au u.l.length cu)
      refine ⟨put4_below (bnext HB2.out HB5.out) (Nat.le_succ _) _ _ _ _, .inr ⟨u, Au, cu, HE.out, rfl, ((HTU.out.keep (w' := put4 (w4.alloc (.cells #[.int .i64 u.k, .int .i64 u.n, .string u.s, .slice Au u.l.length cu] 24)) (w.heap.size + 1) (.int .i64 u.k) (.int .i64 u.n) (.string u.s) (.slice Au u.l.length cu)) (fun q hq => put4_cell _ _ _ _ _ _ q (fun e => by rcases hq with hq | hq; omega; have := hq.1; omega))).mono fun b hb => hb.imp id fun hb => ⟨by have := hb.1; omega, by show b < (put4 (w4.alloc (.cells #[.int .i64 u.k, .int .i64 u.n, .string u.s, .slice Au u.l.length cu] 24)) (w.heap.size + 1) (.int .i64 u.k) (.int .i64 u.n) (.string u.s) (.slice Au u.l.length cu)).heap.size; rw [hz]; exact hb.2⟩)⟩⟩
  | none =>
    rw [hv] at HV HMK
    unfold numV at HV
    simp only at HMK
    clear hv p0 p1 p2 p3 q0 q1 q2 q3 t0 t1 t2 t3
    by_cases h79 : k = 7 ∨ k = 9
    · have HPA := Lib.hid (fun w => rparts16_yes k n s Ap l.length cp w h79)
      have hk2 : (k == 2) = false := by simp; omega
      have HE := Lib.hid (show rfill (.mk k n s l) b = (rfillL l b).map fun l' => .mk k n s l' from by rw [HMK.out, if_neg (by omega), if_pos h79])
      by_cases hnil : l.length = 0
      · have HE2 := Lib.hid (show rfill (.mk k n s l) b = some (.mk k n s l) from by rw [HE.out, List.eq_nil_of_length_eq_zero hnil, rfillL_nil]; rfl)
        have hnz : ((l.length : Int) == 0) = true := by rw [hnil]; rfl
        clear hnil
        rcases h79 with rfl | rfl
        · go_enter Try.func51, Try.ntmps51
          go_wp2_with fail
          rw [HW2.out]
          refine HV.out.mono ?_
          rintro e w3 ⟨rfl, hb3⟩
          have HB3 := Lib.hid hb3
          obtain ⟨p0, p1, p2, p3, _, _, _, _⟩ := (HGP.out.below hb3 HGP.out.lt).four
          clear hb3
          go_wp2_with fail
          refine (HPA.out _).mono ?_
          rintro e w4 ⟨rfl, hb4⟩
          have HB4 := Lib.hid (bnext HB3.out hb4)
          have hgp4 := HGP.out.below HB4.out HGP.out.lt
          have hgr4 := HGR.out.below HB4.out HGR.out.lt
          have HGP4 := Lib.hid hgp4; have HGR4 := Lib.hid hgr4
          clear hb4 p0 p1 p2 p3
          obtain ⟨p0, p1, p2, p3, _, _, _, _⟩ := hgp4.four
          obtain ⟨q0, q1, q2, q3, t0, t1, t2, t3⟩ := hgr4.four
          clear hgp4 hgr4
          go_wp2_with fail
          obtain ⟨r0, r1, r2, r3, _, _, _, _⟩ := (put4_blk HGR4.out (.int .i64 7) (.int .i64 n) (.string s) (.slice Ap l.length cp)).four
          have HR9 := Lib.hid (HRET.out _ HB4.out HE2.out)
          unfold put4 at r0 r1 r2 r3
          exact bodyPost_ret (v := .tuple #[.agg #[.int .i64 7, .int .i64 n, .string s, .slice Ap l.length cp], .bool true]) (by simp [results, Try.results51, go_sem, r0, r1, r2, r3]) rfl HR9.out
        · go_enter Try.func51, Try.ntmps51
          go_wp2_with fail
          rw [HW2.out]
          refine HV.out.mono ?_
          rintro e w3 ⟨rfl, hb3⟩
          have HB3 := Lib.hid hb3
          obtain ⟨p0, p1, p2, p3, _, _, _, _⟩ := (HGP.out.below hb3 HGP.out.lt).four
          clear hb3
          go_wp2_with fail
          refine (HPA.out _).mono ?_
          rintro e w4 ⟨rfl, hb4⟩
          have HB4 := Lib.hid (bnext HB3.out hb4)
          have hgp4 := HGP.out.below HB4.out HGP.out.lt
          have hgr4 := HGR.out.below HB4.out HGR.out.lt
          have HGP4 := Lib.hid hgp4; have HGR4 := Lib.hid hgr4
          clear hb4 p0 p1 p2 p3
          obtain ⟨p0, p1, p2, p3, _, _, _, _⟩ := hgp4.four
          obtain ⟨q0, q1, q2, q3, t0, t1, t2, t3⟩ := hgr4.four
          clear hgp4 hgr4
          go_wp2_with fail
          obtain ⟨r0, r1, r2, r3, _, _, _, _⟩ := (put4_blk HGR4.out (.int .i64 9) (.int .i64 n) (.string s) (.slice Ap l.length cp)).four
          have HR9 := Lib.hid (HRET.out _ HB4.out HE2.out)
          unfold put4 at r0 r1 r2 r3
          exact bodyPost_ret (v := .tuple #[.agg #[.int .i64 9, .int .i64 n, .string s, .slice Ap l.length cp], .bool true]) (by simp [results, Try.results51, go_sem, r0, r1, r2, r3]) rfl HR9.out
      · have hnz : ((l.length : Int) == 0) = false := by rw [beq_eq_false_iff_ne]; omega
        rcases h79 with rfl | rfl
        · go_enter Try.func51, Try.ntmps51
          go_wp2_with fail
          rw [HW2.out]
          refine HV.out.mono ?_
          rintro e w3 ⟨rfl, hb3⟩
          have HB3 := Lib.hid hb3
          obtain ⟨p0, p1, p2, p3, _, _, _, _⟩ := (HGP.out.below hb3 HGP.out.lt).four
          clear hb3
          go_wp2_with fail
          refine (HPA.out _).mono ?_
          rintro e w4 ⟨rfl, hb4⟩
          have HB4 := Lib.hid (bnext HB3.out hb4)
          have hgp4 := HGP.out.below HB4.out HGP.out.lt
          have hgr4 := HGR.out.below HB4.out HGR.out.lt
          have HGP4 := Lib.hid hgp4; have HGR4 := Lib.hid hgr4
          clear hb4 p0 p1 p2 p3
          obtain ⟨p0, p1, p2, p3, _, _, _, _⟩ := hgp4.four
          obtain ⟨q0, q1, q2, q3, t0, t1, t2, t3⟩ := hgr4.four
          clear hgp4 hgr4
          go_wp2_with fail
          obtain ⟨W5, hW5⟩ : ∃ W5, w4.alloc (.cells #[.int .i64 7, .int .i64 n, .string s, .slice none 0 0] 24) = W5 := ⟨_, rfl⟩
          have hb5 : Below w4.heap.size w4 W5 := by rw [← hW5]; exact ballocs (Below.refl _ _) _
          obtain ⟨g2, hg2⟩ : ∃ g2, w4.heap.size = g2 := ⟨_, rfl⟩
          have hz5 : W5.heap.size = g2 + 1 := by rw [← hW5, ← hg2]; simp
          have HJ0 := Lib.hid (show FlJ w N b 7 n s l (w.heap.size + 1) g2 0 W5 from ⟨.slice none 0 0, [], by rw [List.take_zero, rfillL_nil], HGR4.out.below hb5 HGR4.out.lt, by rw [← hW5, ← hg2]; exact Blk.new _ _ _, TRow.none_ _ _ _, bnext HB2.out (bnext HB4.out hb5)⟩)
          have HB5 := Lib.hid (bnext HB4.out hb5)
          have hsz4 := HB4.out.size
          have hzz := HZ2.out
          have HZ5 := Lib.hid hz5
          rw [hW5]
          rw [hg2]
          clear hW5 hb5 p0 p1 p2 p3 q0 q1 q2 q3 t0 t1 t2 t3
          go_loopw [12] (fun x wr => ∃ i : Nat, i ≤ l.length ∧ x = .int .i64 (i : Int) ∧ FlJ w N b 7 n s l (w.heap.size + 1) g2 i wr ∧ Below W2.heap.size W2 wr) (fun x _ => l.length - (intOf x).toNat)
          case atStart => exact ⟨0, Nat.zero_le _, rfl, HJ0.out, HB5.out⟩
          case round =>
            obtain ⟨i, hi, rfl, ⟨row, ls, hfl, hg1, hgo, hrow, hblw⟩, hbw5⟩ := hrel
            have HFL := Lib.hid hfl; have HG1 := Lib.hid hg1; have HGO := Lib.hid hgo; have HBW := Lib.hid hblw; have HBW5 := Lib.hid hbw5
            have hszw := hbw5.size
            obtain ⟨A3, c3, rfl, _, _, _⟩ := hrow.form
            have HROW := Lib.hid hrow
            have HBR := Lib.hid hbw5
            have hgol := hgo.lt
            by_cases hlt : i < l.length
            · obtain ⟨u, hu⟩ : ∃ u, l[i]? = some u := ⟨_, List.getElem?_eq_getElem hlt⟩
              obtain ⟨bb, o, A1, c1, rfl, hb1, d0, d1, d2, d3, ok1, hta⟩ := ((HKP.out wr HBR.out).2.1).at_ hu
              have HU := Lib.hid hu
              have HC := Lib.hid (HIH.out u (List.mem_of_getElem? hu) _ N b A c wr (TAt.of ok1 hta) (HKP.out wr HBR.out).1 (by omega) hbl)
              have hi0 : (0 : Int) ≤ (i : Int) := by omega
              have hil : (i : Int) < (l.length : Int) := by omega
              clear hfl hg1 hgo hrow hblw hbw5 hu hta ok1
              go_wp2_with fail
              refine HC.out.mono ?_
              rintro e w6 ⟨hb6, (⟨ho, rfl⟩ | ⟨t, A6, c6, ho, rfl, ht⟩)⟩
              · have HN := Lib.hid (show rfill (.mk 7 n s l) b = none from by rw [HE.out, rfillL_none HU.out ho]; rfl)
                have hg1' := (HG1.out.below hb6 HG1.out.lt).alloc (.cells #[.int .i64 0, .int .i64 0, .string ⟨#[]⟩, .slice none 0 0] 24)
                obtain ⟨q0, q1, q2, q3, t0, t1, t2, t3⟩ := hg1'.four
                have HG6 := Lib.hid hg1'
                have HB6 := Lib.hid (ballocs (bnext HBW.out hb6) (.cells #[.int .i64 0, .int .i64 0, .string ⟨#[]⟩, .slice none 0 0] 24))
                clear hb6 ho d0 d1 d2 d3 hg1'
                go_wp2_with fail
                obtain ⟨r0, r1, r2, r3, _, _, _, _⟩ := (put4_blk HG6.out (.int .i64 0) (.int .i64 0) (.string ⟨#[]⟩) (.slice none 0 0)).four
                unfold put4 at r0 r1 r2 r3
                exact bodyPost_ret (v := .tuple #[.agg #[.int .i64 0, .int .i64 0, .string ⟨#[]⟩, .slice none 0 0], .bool false]) (by simp [results, Try.results51, go_sem, r0, r1, r2, r3]) rfl (HNO.out _ HB6.out HN.out)
              · unfold tv at ht ⊢
                obtain ⟨w7, hw7⟩ : ∃ x, w6.alloc (.cells #[.int .i64 t.k, .int .i64 t.n, .string t.s, .slice A6 t.l.length c6] 24) = x := ⟨_, rfl⟩
                have hb67 : Below w6.heap.size w6 w7 := by rw [← hw7]; exact ballocs (Below.refl _ _) _
                have ht7 : Blk w7 w6.heap.size 24 #[.int .i64 t.k, .int .i64 t.n, .string t.s, .slice A6 t.l.length c6] := by rw [← hw7]; exact Blk.new _ _ _
                have hb7 : Below wr.heap.size wr w7 := hb6.trans (hb67.mono hb6.size)
                obtain ⟨G, vs, hV, hG, hRw⟩ := HROW.out
                have hR7 := ownsRow_below hRw hb7 (fun r hr => (hRw.lt r hr).2)
                have HR7 := Lib.hid hR7
                have HV2 := Lib.hid hV; have HG := Lib.hid hG; have HRw := Lib.hid hRw
                have hg2' := HGO.out.below hb7 HGO.out.lt
                obtain ⟨p0, p1, p2, p3, q0, q1, q2, q3⟩ := hg2'.four
                obtain ⟨t0, t1, t2, t3, _, _, _, _⟩ := ht7.four
                have HG27 := Lib.hid hg2'
                have HT6 := Lib.hid ht
                have HO := Lib.hid ho
                have hll : ls.length = i := by have := rfillL_len HFL.out; rw [List.length_take] at this; omega
                have b1 : ls.length + 1 ≤ maxLen := by unfold maxLen; omega
                have b2 : (ls.length + 1) * 56 ≤ 140737488355328 := by omega
                have b3 : g2 + 1 ≤ (w7.alloc (.cells #[.int .i64 t.k, .int .i64 t.n, .string t.s, .slice A6 t.l.length c6] 24)).heap.size := by have := hb7.size; simp; omega
                have HB6 := Lib.hid hb6
                subst hw7
                clear hb67 ht7 hb7 hV hG hRw hR7 hg2' ht ho hb6 hll d0 d1 d2 d3
                go_wp2_with (first
                  | (at_builtin; refine wpList_append_own_at _ rfl _ _ 22 rfl (g2 + 1) 24 i0 _ 4 56 Try.underlying22 hin hy0 hy1 hy2 rfl (by decide) (.slice A3 ls.length c3) ls.length _ rfl (HR7.out.alloc _) ⟨w6.heap.size + 1, 0, none⟩ 1 1 [.int .i64 t.k, .int .i64 t.n, .string t.s, .slice A6 t.l.length c6] rfl rfl (by have h := cells4_new (w6.alloc (.cells #[.int .i64 t.k, .int .i64 t.n, .string t.s, .slice A6 t.l.length c6] 24)) (.int .i64 t.k) (.int .i64 t.n) (.string t.s) (.slice A6 t.l.length c6) 24; simp only [World.size_alloc] at h; exact h) (one4 _ _ _ _ _ _) b1 b2 b3 ?_; intro v3 w3' hR3 hg3 _ hat3
                     obtain ⟨A5, c5, rfl, _, _⟩ := ownsRow_form hR3
                     have hg23 := (HG27.out.alloc (.cells #[.int .i64 t.k, .int .i64 t.n, .string t.s, .slice A6 t.l.length c6] 24)).grown hg3 (fun e => by have := (HRw.out.lt _ e.symm).1; omega)
                     obtain ⟨z0, z1, z2, z3, y0', y1', y2', y3'⟩ := hg23.four
                     have HG23 := Lib.hid hg23; have HR3 := Lib.hid hR3; have HG3 := Lib.hid hg3; have HAT3 := Lib.hid hat3
                     clear hg23 hR3 hg3 hat3 p0 p1 p2 p3 q0 q1 q2 q3 t0 t1 t2 t3)
                  | fail)
                have HST := Lib.hid (FlJ.step (w := w) (N := N) (g1 := w.heap.size + 1) (by omega) (by omega) (by omega) HFL.out HU.out HO.out HG1.out HBW.out HB6.out HV2.out HG.out HRw.out HT6.out HG23.out HGO.out.lt HR3.out HG3.out HAT3.out)
                have HS2 := Lib.hid (FlJ.step (w := W2) (N := N) (g1 := w.heap.size + 1) (by omega) (by omega) (by omega) HFL.out HU.out HO.out HG1.out HBR.out HB6.out HV2.out HG.out HRw.out HT6.out HG23.out HGO.out.lt HR3.out HG3.out HAT3.out)
                go_roundw
                case rel =>
                  obtain ⟨_, _, _, _, _, _, hb9⟩ := HS2.out
                  exact ⟨i + 1, by omega, by go_num, HST.out, hb9⟩
                case measure => simp [intOf]; omega
            · obtain rfl : i = l.length := by omega
              rw [List.take_length] at hfl
              have HD := Lib.hid (FlJ.done (g1 := w.heap.size + 1) (by omega) (by omega) (by omega) hfl HOK.out hrow hblw HE.out)
              obtain ⟨q0, q1, q2, q3, t0, t1, t2, t3⟩ := hg1.four
              obtain ⟨o0, o1, o2, o3, _, _, _, _⟩ := hgo.four
              clear hfl hg1 hgo hrow hblw hbw5
              go_wp2_with fail
              obtain ⟨r0, r1, r2, r3, _, _, _, _⟩ := (put4_blk HG1.out (.int .i64 7) (.int .i64 n) (.string s) (.slice A3 ls.length c3)).four
              unfold put4 at r0 r1 r2 r3
              exact bodyPost_ret (v := .tuple #[.agg #[.int .i64 7, .int .i64 n, .string s, .slice A3 ls.length c3], .bool true]) (by simp [results, Try.results51, go_sem, r0, r1, r2, r3]) rfl HD.out
        · go_enter Try.func51, Try.ntmps51
          go_wp2_with fail
          rw [HW2.out]
          refine HV.out.mono ?_
          rintro e w3 ⟨rfl, hb3⟩
          have HB3 := Lib.hid hb3
          obtain ⟨p0, p1, p2, p3, _, _, _, _⟩ := (HGP.out.below hb3 HGP.out.lt).four
          clear hb3
          go_wp2_with fail
          refine (HPA.out _).mono ?_
          rintro e w4 ⟨rfl, hb4⟩
          have HB4 := Lib.hid (bnext HB3.out hb4)
          have hgp4 := HGP.out.below HB4.out HGP.out.lt
          have hgr4 := HGR.out.below HB4.out HGR.out.lt
          have HGP4 := Lib.hid hgp4; have HGR4 := Lib.hid hgr4
          clear hb4 p0 p1 p2 p3
          obtain ⟨p0, p1, p2, p3, _, _, _, _⟩ := hgp4.four
          obtain ⟨q0, q1, q2, q3, t0, t1, t2, t3⟩ := hgr4.four
          clear hgp4 hgr4
          go_wp2_with fail
          obtain ⟨W5, hW5⟩ : ∃ W5, w4.alloc (.cells #[.int .i64 9, .int .i64 n, .string s, .slice none 0 0] 24) = W5 := ⟨_, rfl⟩
          have hb5 : Below w4.heap.size w4 W5 := by rw [← hW5]; exact ballocs (Below.refl _ _) _
          obtain ⟨g2, hg2⟩ : ∃ g2, w4.heap.size = g2 := ⟨_, rfl⟩
          have hz5 : W5.heap.size = g2 + 1 := by rw [← hW5, ← hg2]; simp
          have HJ0 := Lib.hid (show FlJ w N b 9 n s l (w.heap.size + 1) g2 0 W5 from ⟨.slice none 0 0, [], by rw [List.take_zero, rfillL_nil], HGR4.out.below hb5 HGR4.out.lt, by rw [← hW5, ← hg2]; exact Blk.new _ _ _, TRow.none_ _ _ _, bnext HB2.out (bnext HB4.out hb5)⟩)
          have HB5 := Lib.hid (bnext HB4.out hb5)
          have hsz4 := HB4.out.size
          have hzz := HZ2.out
          have HZ5 := Lib.hid hz5
          rw [hW5]
          rw [hg2]
          clear hW5 hb5 p0 p1 p2 p3 q0 q1 q2 q3 t0 t1 t2 t3
          go_loopw [12] (fun x wr => ∃ i : Nat, i ≤ l.length ∧ x = .int .i64 (i : Int) ∧ FlJ w N b 9 n s l (w.heap.size + 1) g2 i wr ∧ Below W2.heap.size W2 wr) (fun x _ => l.length - (intOf x).toNat)
          case atStart => exact ⟨0, Nat.zero_le _, rfl, HJ0.out, HB5.out⟩
          case round =>
            obtain ⟨i, hi, rfl, ⟨row, ls, hfl, hg1, hgo, hrow, hblw⟩, hbw5⟩ := hrel
            have HFL := Lib.hid hfl; have HG1 := Lib.hid hg1; have HGO := Lib.hid hgo; have HBW := Lib.hid hblw; have HBW5 := Lib.hid hbw5
            have hszw := hbw5.size
            obtain ⟨A3, c3, rfl, _, _, _⟩ := hrow.form
            have HROW := Lib.hid hrow
            have HBR := Lib.hid hbw5
            have hgol := hgo.lt
            by_cases hlt : i < l.length
            · obtain ⟨u, hu⟩ : ∃ u, l[i]? = some u := ⟨_, List.getElem?_eq_getElem hlt⟩
              obtain ⟨bb, o, A1, c1, rfl, hb1, d0, d1, d2, d3, ok1, hta⟩ := ((HKP.out wr HBR.out).2.1).at_ hu
              have HU := Lib.hid hu
              have HC := Lib.hid (HIH.out u (List.mem_of_getElem? hu) _ N b A c wr (TAt.of ok1 hta) (HKP.out wr HBR.out).1 (by omega) hbl)
              have hi0 : (0 : Int) ≤ (i : Int) := by omega
              have hil : (i : Int) < (l.length : Int) := by omega
              clear hfl hg1 hgo hrow hblw hbw5 hu hta ok1
              go_wp2_with fail
              refine HC.out.mono ?_
              rintro e w6 ⟨hb6, (⟨ho, rfl⟩ | ⟨t, A6, c6, ho, rfl, ht⟩)⟩
              · have HN := Lib.hid (show rfill (.mk 9 n s l) b = none from by rw [HE.out, rfillL_none HU.out ho]; rfl)
                have hg1' := (HG1.out.below hb6 HG1.out.lt).alloc (.cells #[.int .i64 0, .int .i64 0, .string ⟨#[]⟩, .slice none 0 0] 24)
                obtain ⟨q0, q1, q2, q3, t0, t1, t2, t3⟩ := hg1'.four
                have HG6 := Lib.hid hg1'
                have HB6 := Lib.hid (ballocs (bnext HBW.out hb6) (.cells #[.int .i64 0, .int .i64 0, .string ⟨#[]⟩, .slice none 0 0] 24))
                clear hb6 ho d0 d1 d2 d3 hg1'
                go_wp2_with fail
                obtain ⟨r0, r1, r2, r3, _, _, _, _⟩ := (put4_blk HG6.out (.int .i64 0) (.int .i64 0) (.string ⟨#[]⟩) (.slice none 0 0)).four
                unfold put4 at r0 r1 r2 r3
                exact bodyPost_ret (v := .tuple #[.agg #[.int .i64 0, .int .i64 0, .string ⟨#[]⟩, .slice none 0 0], .bool false]) (by simp [results, Try.results51, go_sem, r0, r1, r2, r3]) rfl (HNO.out _ HB6.out HN.out)
              · unfold tv at ht ⊢
                obtain ⟨w7, hw7⟩ : ∃ x, w6.alloc (.cells #[.int .i64 t.k, .int .i64 t.n, .string t.s, .slice A6 t.l.length c6] 24) = x := ⟨_, rfl⟩
                have hb67 : Below w6.heap.size w6 w7 := by rw [← hw7]; exact ballocs (Below.refl _ _) _
                have ht7 : Blk w7 w6.heap.size 24 #[.int .i64 t.k, .int .i64 t.n, .string t.s, .slice A6 t.l.length c6] := by rw [← hw7]; exact Blk.new _ _ _
                have hb7 : Below wr.heap.size wr w7 := hb6.trans (hb67.mono hb6.size)
                obtain ⟨G, vs, hV, hG, hRw⟩ := HROW.out
                have hR7 := ownsRow_below hRw hb7 (fun r hr => (hRw.lt r hr).2)
                have HR7 := Lib.hid hR7
                have HV2 := Lib.hid hV; have HG := Lib.hid hG; have HRw := Lib.hid hRw
                have hg2' := HGO.out.below hb7 HGO.out.lt
                obtain ⟨p0, p1, p2, p3, q0, q1, q2, q3⟩ := hg2'.four
                obtain ⟨t0, t1, t2, t3, _, _, _, _⟩ := ht7.four
                have HG27 := Lib.hid hg2'
                have HT6 := Lib.hid ht
                have HO := Lib.hid ho
                have hll : ls.length = i := by have := rfillL_len HFL.out; rw [List.length_take] at this; omega
                have b1 : ls.length + 1 ≤ maxLen := by unfold maxLen; omega
                have b2 : (ls.length + 1) * 56 ≤ 140737488355328 := by omega
                have b3 : g2 + 1 ≤ (w7.alloc (.cells #[.int .i64 t.k, .int .i64 t.n, .string t.s, .slice A6 t.l.length c6] 24)).heap.size := by have := hb7.size; simp; omega
                have HB6 := Lib.hid hb6
                subst hw7
                clear hb67 ht7 hb7 hV hG hRw hR7 hg2' ht ho hb6 hll d0 d1 d2 d3
                go_wp2_with (first
                  | (at_builtin; refine wpList_append_own_at _ rfl _ _ 22 rfl (g2 + 1) 24 i0 _ 4 56 Try.underlying22 hin hy0 hy1 hy2 rfl (by decide) (.slice A3 ls.length c3) ls.length _ rfl (HR7.out.alloc _) ⟨w6.heap.size + 1, 0, none⟩ 1 1 [.int .i64 t.k, .int .i64 t.n, .string t.s, .slice A6 t.l.length c6] rfl rfl (by have h := cells4_new (w6.alloc (.cells #[.int .i64 t.k, .int .i64 t.n, .string t.s, .slice A6 t.l.length c6] 24)) (.int .i64 t.k) (.int .i64 t.n) (.string t.s) (.slice A6 t.l.length c6) 24; simp only [World.size_alloc] at h; exact h) (one4 _ _ _ _ _ _) b1 b2 b3 ?_; intro v3 w3' hR3 hg3 _ hat3
                     obtain ⟨A5, c5, rfl, _, _⟩ := ownsRow_form hR3
                     have hg23 := (HG27.out.alloc (.cells #[.int .i64 t.k, .int .i64 t.n, .string t.s, .slice A6 t.l.length c6] 24)).grown hg3 (fun e => by have := (HRw.out.lt _ e.symm).1; omega)
                     obtain ⟨z0, z1, z2, z3, y0', y1', y2', y3'⟩ := hg23.four
                     have HG23 := Lib.hid hg23; have HR3 := Lib.hid hR3; have HG3 := Lib.hid hg3; have HAT3 := Lib.hid hat3
                     clear hg23 hR3 hg3 hat3 p0 p1 p2 p3 q0 q1 q2 q3 t0 t1 t2 t3)
                  | fail)
                have HST := Lib.hid (FlJ.step (w := w) (N := N) (g1 := w.heap.size + 1) (by omega) (by omega) (by omega) HFL.out HU.out HO.out HG1.out HBW.out HB6.out HV2.out HG.out HRw.out HT6.out HG23.out HGO.out.lt HR3.out HG3.out HAT3.out)
                have HS2 := Lib.hid (FlJ.step (w := W2) (N := N) (g1 := w.heap.size + 1) (by omega) (by omega) (by omega) HFL.out HU.out HO.out HG1.out HBR.out HB6.out HV2.out HG.out HRw.out HT6.out HG23.out HGO.out.lt HR3.out HG3.out HAT3.out)
                go_roundw
                case rel =>
                  obtain ⟨_, _, _, _, _, _, hb9⟩ := HS2.out
                  exact ⟨i + 1, by omega, by go_num, HST.out, hb9⟩
                case measure => simp [intOf]; omega
            · obtain rfl : i = l.length := by omega
              rw [List.take_length] at hfl
              have HD := Lib.hid (FlJ.done (g1 := w.heap.size + 1) (by omega) (by omega) (by omega) hfl HOK.out hrow hblw HE.out)
              obtain ⟨q0, q1, q2, q3, t0, t1, t2, t3⟩ := hg1.four
              obtain ⟨o0, o1, o2, o3, _, _, _, _⟩ := hgo.four
              clear hfl hg1 hgo hrow hblw hbw5
              go_wp2_with fail
              obtain ⟨r0, r1, r2, r3, _, _, _, _⟩ := (put4_blk HG1.out (.int .i64 9) (.int .i64 n) (.string s) (.slice A3 ls.length c3)).four
              unfold put4 at r0 r1 r2 r3
              exact bodyPost_ret (v := .tuple #[.agg #[.int .i64 9, .int .i64 n, .string s, .slice A3 ls.length c3], .bool true]) (by simp [results, Try.results51, go_sem, r0, r1, r2, r3]) rfl HD.out
    · have HPA := Lib.hid (fun w => rparts16_no k n s Ap l.length cp w h79)
      by_cases h2 : k = 2
      · subst h2
        by_cases hus : s = uscore
        · have hu1 : (s.toList == [95]) = true := by rw [hus, Lib.toList_data]; rfl
          have hu2 : s.toList = [95] := by rw [hus, Lib.toList_data]; rfl
          have HE := Lib.hid (show rfill (.mk 2 n s l) b = none from by rw [HMK.out, if_pos ⟨rfl, hus⟩])
          clear hus
          go_enter Try.func51, Try.ntmps51
          go_wp2_with fail
          rw [HW2.out]
          refine HV.out.mono ?_
          rintro e w3 ⟨rfl, hb3⟩
          have HB3 := Lib.hid hb3
          obtain ⟨p0, p1, p2, p3, _, _, _, _⟩ := (HGP.out.below hb3 HGP.out.lt).four
          have HG3 := Lib.hid (HGR.out.below hb3 HGR.out.lt)
          obtain ⟨q0, q1, q2, q3, t0, t1, t2, t3⟩ := HG3.out.four
          clear hb3
          go_wp2_with fail
          obtain ⟨r0, r1, r2, r3, _, _, _, _⟩ := (put4_blk HG3.out (.int .i64 0) (.int .i64 0) (.string ⟨#[]⟩) (.slice none 0 0)).four
          unfold put4 at r0 r1 r2 r3
          exact bodyPost_ret (v := .tuple #[.agg #[.int .i64 0, .int .i64 0, .string ⟨#[]⟩, .slice none 0 0], .bool false]) (by simp [results, Try.results51, go_sem, r0, r1, r2, r3]) rfl (HNO.out _ (bnext HB2.out HB3.out) HE.out)
        · have hu1 := us_ne hus
          have HE2 := Lib.hid (show rfill (.mk 2 n s l) b = some (.mk 2 n s l) from by rw [HMK.out, if_neg (fun e => hus e.2), if_neg (by omega)])
          clear hus
          go_enter Try.func51, Try.ntmps51
          go_wp2_with fail
          rw [HW2.out]
          refine HV.out.mono ?_
          rintro e w3 ⟨rfl, hb3⟩
          have HB3 := Lib.hid hb3
          obtain ⟨p0, p1, p2, p3, _, _, _, _⟩ := (HGP.out.below hb3 HGP.out.lt).four
          clear hb3
          go_wp2_with fail
          refine (HPA.out _).mono ?_
          rintro e w4 ⟨rfl, hb4⟩
          have HB4 := Lib.hid (bnext HB3.out hb4)
          have hgp4 := HGP.out.below HB4.out HGP.out.lt
          have hgr4 := HGR.out.below HB4.out HGR.out.lt
          have HGP4 := Lib.hid hgp4; have HGR4 := Lib.hid hgr4
          clear hb4 p0 p1 p2 p3
          obtain ⟨p0, p1, p2, p3, _, _, _, _⟩ := hgp4.four
          obtain ⟨q0, q1, q2, q3, t0, t1, t2, t3⟩ := hgr4.four
          clear hgp4 hgr4
          go_wp2_with fail
          obtain ⟨r0, r1, r2, r3, _, _, _, _⟩ := (put4_blk HGR4.out (.int .i64 2) (.int .i64 n) (.string s) (.slice Ap l.length cp)).four
          have HR9 := Lib.hid (HRET.out _ HB4.out HE2.out)
          unfold put4 at r0 r1 r2 r3
          exact bodyPost_ret (v := .tuple #[.agg #[.int .i64 2, .int .i64 n, .string s, .slice Ap l.length cp], .bool true]) (by simp [results, Try.results51, go_sem, r0, r1, r2, r3]) rfl HR9.out
      · have hk2 : (k == 2) = false := by simpa using h2
        have HE2 := Lib.hid (show rfill (.mk k n s l) b = some (.mk k n s l) from by rw [HMK.out, if_neg (fun e => h2 e.1), if_neg h79])
        clear h2 h79
        go_enter Try.func51, Try.ntmps51
        go_wp2_with fail
        rw [HW2.out]
        refine HV.out.mono ?_
        rintro e w3 ⟨rfl, hb3⟩
        have HB3 := Lib.hid hb3
        obtain ⟨p0, p1, p2, p3, _, _, _, _⟩ := (HGP.out.below hb3 HGP.out.lt).four
        clear hb3
        go_wp2_with fail
        refine (HPA.out _).mono ?_
        rintro e w4 ⟨rfl, hb4⟩
        have HB4 := Lib.hid (bnext HB3.out hb4)
        have hgp4 := HGP.out.below HB4.out HGP.out.lt
        have hgr4 := HGR.out.below HB4.out HGR.out.lt
        have HGP4 := Lib.hid hgp4; have HGR4 := Lib.hid hgr4
        clear hb4 p0 p1 p2 p3
        obtain ⟨p0, p1, p2, p3, _, _, _, _⟩ := hgp4.four
        obtain ⟨q0, q1, q2, q3, t0, t1, t2, t3⟩ := hgr4.four
        clear hgp4 hgr4
        go_wp2_with fail
        obtain ⟨r0, r1, r2, r3, _, _, _, _⟩ := (put4_blk HGR4.out (.int .i64 k) (.int .i64 n) (.string s) (.slice Ap l.length cp)).four
        have HR9 := Lib.hid (HRET.out _ HB4.out HE2.out)
        unfold put4 at r0 r1 r2 r3
        exact bodyPost_ret (v := .tuple #[.agg #[.int .i64 k, .int .i64 n, .string s, .slice Ap l.length cp], .bool true]) (by simp [results, Try.results51, go_sem, r0, r1, r2, r3]) rfl HR9.out
set_option maxRecDepth 100000 in
set_option maxHeartbeats 8000000 in
theorem rFind_any (l : List Bnd) (n : Int) (A : Option Addr) (c : Nat) (w : World) (h : BsAt w (· < w.heap.size) A l) (hl : l.length ≤ 65536) (hn : ∀ q ∈ l, nodes q.2 ≤ 1048576) :
    Calls Try.prog 23 #[.slice A l.length c, .int .i64 n] w (RfPost w (findF l n)) := by
  obtain ⟨W1, hW1⟩ : ∃ W1, w.alloc (.cells #[.int .i64 0, .int .i64 0, .string ⟨#[]⟩, .slice none 0 0] 24) = W1 := ⟨_, rfl⟩
  have hb1 : Below w.heap.size w W1 := by rw [← hW1]; exact ballocs (Below.refl _ _) _
  have hg : Blk W1 w.heap.size 24 #[.int .i64 0, .int .i64 0, .string ⟨#[]⟩, .slice none 0 0] := by rw [← hW1]; exact Blk.new _ _ _
  have HG := Lib.hid hg; have HB1 := Lib.hid hb1; have HW1 := Lib.hid hW1
  have HMY := Lib.hid (rmay_any l A c W1 (h.later hb1) hl hn)
  have HF := Lib.hid (fun wx (hx : Below W1.heap.size W1 wx) => find_any l n A c wx ((h.later hb1).later hx) hl)
  have HTN := Lib.hid (show ∀ t, findB l n = some t → nodes t ≤ 1048576 from fun t ht => by
    unfold findB at ht
    rw [Option.map_eq_some_iff] at ht
    obtain ⟨q, hq, rfl⟩ := ht
    exact hn q (List.mem_of_find?_eq_some hq))
  have HE := Lib.hid (findF_eq (l := l) (n := n))
  obtain ⟨r, hr⟩ : ∃ r, okFrom (-1) l = r := ⟨_, rfl⟩
  rw [hr] at HMY HE
  have HNO := Lib.hid (show ∀ w', Below w.heap.size w w' → findF l n = none → RfPost w (findF l n) (.returned (.tuple #[.agg #[.int .i64 0, .int .i64 0, .string ⟨#[]⟩, .slice none 0 0], .bool false])) (put4 w' w.heap.size (.int .i64 0) (.int .i64 0) (.string ⟨#[]⟩) (.slice none 0 0)) from fun w' h0 he => ⟨put4_below h0 (Nat.le_refl _) _ _ _ _, .inl ⟨he, rfl⟩⟩)
  clear h hb1 hg hW1 hr hn
  go_enter Try.func23, Try.ntmps23
  go_wp2_with fail
  rw [HW1.out]
  refine HMY.out.mono ?_
  rintro e w2 ⟨rfl, hb2⟩
  have HB2 := Lib.hid hb2
  cases r with
  | false =>
    have HE2 := Lib.hid (show findF l n = none from by rw [HE.out]; rfl)
    have HG2 := Lib.hid (HG.out.below hb2 HG.out.lt)
    obtain ⟨q0, q1, q2, q3, t0, t1, t2, t3⟩ := HG2.out.four
    clear hb2
    go_wp2_with fail
    obtain ⟨r0, r1, r2, r3, _, _, _, _⟩ := (put4_blk HG2.out (.int .i64 0) (.int .i64 0) (.string ⟨#[]⟩) (.slice none 0 0)).four
    unfold put4 at r0 r1 r2 r3
    exact bodyPost_ret (v := .tuple #[.agg #[.int .i64 0, .int .i64 0, .string ⟨#[]⟩, .slice none 0 0], .bool false]) (by simp [results, Try.results23, go_sem, r0, r1, r2, r3]) rfl (HNO.out _ (bnext HB1.out HB2.out) HE2.out)
  | true =>
    clear hb2
    go_wp2_with fail
    refine (HF.out w2 HB2.out).mono ?_
    rintro e w3 ⟨hb3, hf⟩
    have HB3 := Lib.hid (bnext HB2.out hb3)
    rcases hf with ⟨ho, rfl⟩ | ⟨t, At, ct, ho, rfl, ht⟩
    · have HE2 := Lib.hid (show findF l n = none from by rw [HE.out]; simpa using ho)
      have hg3 := (HG.out.below HB3.out HG.out.lt).alloc (.cells #[.int .i64 0, .int .i64 0, .string ⟨#[]⟩, .slice none 0 0] 24)
      obtain ⟨q0, q1, q2, q3, t0, t1, t2, t3⟩ := hg3.four
      have HG3 := Lib.hid hg3
      have HB4 := Lib.hid (ballocs (bnext HB1.out HB3.out) (.cells #[.int .i64 0, .int .i64 0, .string ⟨#[]⟩, .slice none 0 0] 24))
      clear hb3 ho hg3
      go_wp2_with fail
      obtain ⟨r0, r1, r2, r3, _, _, _, _⟩ := (put4_blk HG3.out (.int .i64 0) (.int .i64 0) (.string ⟨#[]⟩) (.slice none 0 0)).four
      unfold put4 at r0 r1 r2 r3
      exact bodyPost_ret (v := .tuple #[.agg #[.int .i64 0, .int .i64 0, .string ⟨#[]⟩, .slice none 0 0], .bool false]) (by simp [results, Try.results23, go_sem, r0, r1, r2, r3]) rfl (HNO.out _ HB4.out HE2.out)
    · have HE2 := Lib.hid (show findF l n = some t from by rw [HE.out]; simpa using ho)
      have HNT := Lib.hid (HTN.out t ho)
      unfold tv at ht ⊢
      obtain ⟨W4, hW4⟩ : ∃ W4, w3.alloc (.cells #[.int .i64 t.k, .int .i64 t.n, .string t.s, .slice At t.l.length ct] 24) = W4 := ⟨_, rfl⟩
      have hb4 : Below w3.heap.size w3 W4 := by rw [← hW4]; exact ballocs (Below.refl _ _) _
      have hgt : Blk W4 w3.heap.size 24 #[.int .i64 t.k, .int .i64 t.n, .string t.s, .slice At t.l.length ct] := by rw [← hW4]; exact Blk.new _ _ _
      have HCP := Lib.hid (rcopy_any t HNT.out _ W4 (TA.later ht hb4))
      have HB4 := Lib.hid (bnext HB3.out hb4)
      obtain ⟨u0, u1, u2, u3, _, _, _, _⟩ := hgt.four
      clear hb3 ho ht hb4 hgt
      subst hW4
      go_wp2_with fail
      refine HCP.out.mono ?_
      rintro e w5 ⟨v5, rfl, hx5, hb5⟩
      obtain ⟨A5, c5, rfl, _, _⟩ := hx5.inv
      have HB5 := Lib.hid (bnext HB1.out (bnext HB4.out hb5))
      have HG5 := Lib.hid (HG.out.below (bnext HB4.out hb5) HG.out.lt)
      obtain ⟨q0, q1, q2, q3, t0, t1, t2, t3⟩ := HG5.out.four
      have HX5 := Lib.hid hx5
      have HLT := Lib.hid (show w.heap.size < (w3.alloc (.cells #[.int .i64 t.k, .int .i64 t.n, .string t.s, .slice At t.l.length ct] 24)).heap.size from Nat.lt_of_lt_of_le HG.out.lt HB4.out.size)
      clear hx5 hb5 u0 u1 u2 u3
      unfold tv
      go_wp2_with fail
      obtain ⟨r0, r1, r2, r3, _, _, _, _⟩ := (put4_blk HG5.out (.int .i64 t.k) (.int .i64 t.n) (.string t.s) (.slice A5 t.l.length c5)).four
      rw [HE2.out]
      refine bodyPost_ret (v := .tuple #[tv t A5 c5, .bool true]) (by unfold put4 at r0 r1 r2 r3; unfold tv; simp [results, Try.results23, go_sem, r0, r1, r2, r3]) rfl ?_
      have hz := put4_size w5 w.heap.size (.int .i64 t.k) (.int .i64 t.n) (.string t.s) (.slice A5 t.l.length c5)
      have hlt := HLT.out
      have hk := put4_keep (Keep.refl (fun x => x = w.heap.size) w5) (g := w.heap.size) (.inl rfl) (.int .i64 t.k) (.int .i64 t.n) (.string t.s) (.slice A5 t.l.length c5)
      exact ⟨put4_below HB5.out (Nat.le_refl _) _ _ _ _, .inr ⟨t, A5, c5, rfl, rfl, (HX5.out.keepF hk (fun b hb => hb.2) (fun b hb e => by have := hb.1; omega)).mono (fun b hb => by show b < (put4 w5 w.heap.size (.int .i64 t.k) (.int .i64 t.n) (.string t.s) (.slice A5 t.l.length c5)).heap.size; rw [hz]; exact hb.2)⟩⟩
set_option maxRecDepth 100000 in
set_option maxHeartbeats 8000000 in
theorem rFill_any (p : Tm) (l : List Bnd) (vp : Value) (A : Option Addr) (c : Nat) (w : World) (hp : TA w p vp) (hl : BsAt w (· < w.heap.size) A l) (hlm : l.length ≤ 65536) (hnp : nodes p ≤ 1000) (hnl : ∀ q ∈ l, nodes q.2 ≤ 1000) :
    Calls Try.prog 21 #[vp, .slice A l.length c] w (RfPost w (filledF p l)) := by
  have hp0 := hp
  obtain ⟨pk, pn, ps, pl, Ap, cp, hpe, rfl, okp, hlp⟩ := hp.open_
  obtain ⟨W2, hW2⟩ : ∃ W2, (w.alloc (.cells #[.int .i64 pk, .int .i64 pn, .string ps, .slice Ap pl.length cp] 24)).alloc (.cells #[.int .i64 0, .int .i64 0, .string ⟨#[]⟩, .slice none 0 0] 24) = W2 := ⟨_, rfl⟩
  have hb2 : Below w.heap.size w W2 := by rw [← hW2]; exact ballocs (ballocs (Below.refl _ _) _) _
  have hgp : Blk W2 w.heap.size 24 #[.int .i64 pk, .int .i64 pn, .string ps, .slice Ap pl.length cp] := by rw [← hW2]; exact (Blk.new _ _ _).alloc _
  have hgr : Blk W2 (w.heap.size + 1) 24 #[.int .i64 0, .int .i64 0, .string ⟨#[]⟩, .slice none 0 0] := by
    rw [← hW2]
    have := Blk.new (w.alloc (.cells #[.int .i64 pk, .int .i64 pn, .string ps, .slice Ap pl.length cp] 24)) 24 #[.int .i64 0, .int .i64 0, .string ⟨#[]⟩, .slice none 0 0]
    simp only [World.size_alloc] at this
    exact this
  have HP := Lib.hid (TA.later hp0 hb2)
  have HL := Lib.hid (hl.later hb2)
  have HB2 := Lib.hid hb2; have HGP := Lib.hid hgp; have HGR := Lib.hid hgr; have HW2 := Lib.hid hW2
  obtain ⟨P, hP⟩ : ∃ P, Tm.mk pk pn ps pl = P := ⟨_, rfl⟩
  subst hpe
  rw [hP] at *
  have hnp1 : nodes P ≤ 1048576 := by omega
  have HCk := Lib.hid (rcheck_any P _ W2 HP.out hnp1)
  obtain ⟨z, hz⟩ : ∃ z, chk P = z := ⟨_, rfl⟩
  rw [hz] at HCk
  have HM := Lib.hid (show mayT P = decide (z = 0) from by unfold mayT; rw [hz])
  have HMY := Lib.hid (fun wx (hx : Below W2.heap.size W2 wx) => rmay_any l A c wx (HL.out.later hx) hlm (fun q hq => by have := hnl q hq; omega))
  have HFN := Lib.hid (show ∀ t, fillP P (bfold l) = some t → nodes t ≤ 1048576 from fun t ht => by
    have := fill_nodes (b := bfold l) (M := 1000) (by omega) (fun n t h => by obtain ⟨q, hq, e⟩ := bfold_mem h; rw [← e]; exact hnl q hq) P t ht
    have : nodes P * 1000 ≤ 1000 * 1000 := Nat.mul_le_mul_right _ hnp
    omega)
  have HFI := Lib.hid (fun wx (hx : Below W2.heap.size W2 wx) => rfill_any P hnp1 _ wx.heap.size l A c wx (HP.out.later hx) (HL.out.later hx) (Nat.le_refl _) hlm)
  have HE := Lib.hid (rfilled_eq P l)
  obtain ⟨r, hr⟩ : ∃ r, okFrom (-1) l = r := ⟨_, rfl⟩
  have HR := Lib.hid hr
  rw [hr] at HMY
  have HNO := Lib.hid (show ∀ w', Below w.heap.size w w' → filledF P l = none → RfPost w (filledF P l) (.returned (.tuple #[.agg #[.int .i64 0, .int .i64 0, .string ⟨#[]⟩, .slice none 0 0], .bool false])) (put4 w' (w.heap.size + 1) (.int .i64 0) (.int .i64 0) (.string ⟨#[]⟩) (.slice none 0 0)) from fun w' h0 he => ⟨put4_below h0 (Nat.le_succ _) _ _ _ _, .inl ⟨he, rfl⟩⟩)
  obtain ⟨p0, p1, p2, p3, _, _, _, _⟩ := hgp.four
  clear hp hp0 okp hlp hb2 hgp hgr hW2 hP hl hz hr hnp hnl hnp1
  by_cases h1 : z = 0
  · subst h1
    have hmp : mayT P = true := by rw [HM.out]; rfl
    have HMP := Lib.hid hmp
    clear hmp
    go_enter Try.func21, Try.ntmps21
    go_wp2_with fail
    rw [HW2.out]
    refine HCk.out.mono ?_
    rintro e w3 ⟨rfl, hb3⟩
    have HB3 := Lib.hid hb3
    clear hb3 p0 p1 p2 p3
    go_wp2_with fail
    refine (HMY.out _ HB3.out).mono ?_
    rintro e w4 ⟨rfl, hb4⟩
    have HB4 := Lib.hid (bnext HB3.out hb4)
    clear hb4
    cases r with
    | false =>
      have HE2 := Lib.hid (show filledF P l = none from by rw [← HE.out, HR.out]; simp)
      have HG4 := Lib.hid (HGR.out.below HB4.out HGR.out.lt)
      obtain ⟨q0, q1, q2, q3, t0, t1, t2, t3⟩ := HG4.out.four
      go_wp2_with fail
      obtain ⟨r0, r1, r2, r3, _, _, _, _⟩ := (put4_blk HG4.out (.int .i64 0) (.int .i64 0) (.string ⟨#[]⟩) (.slice none 0 0)).four
      unfold put4 at r0 r1 r2 r3
      exact bodyPost_ret (v := .tuple #[.agg #[.int .i64 0, .int .i64 0, .string ⟨#[]⟩, .slice none 0 0], .bool false]) (by simp [results, Try.results21, go_sem, r0, r1, r2, r3]) rfl (HNO.out _ (bnext HB2.out HB4.out) HE2.out)
    | true =>
      obtain ⟨p0, p1, p2, p3, _, _, _, _⟩ := (HGP.out.below HB4.out HGP.out.lt).four
      have HEF := Lib.hid (rfill_eq HR.out P HMP.out)
      go_wp2_with fail
      refine ((HFI.out _ HB4.out).mono fun e w' h => h.plain (Nat.le_refl _)).mono ?_
      rintro e w5 ⟨hb5, hf⟩
      have HB5 := Lib.hid (bnext HB4.out hb5)
      rcases hf with ⟨ho, rfl⟩ | ⟨t, At, ct, ho, rfl, ht⟩
      · have HE2 := Lib.hid (show filledF P l = none from by rw [← HE.out, HR.out, HMP.out, ho]; rfl)
        have hg5 := (HGR.out.below HB5.out HGR.out.lt).alloc (.cells #[.int .i64 0, .int .i64 0, .string ⟨#[]⟩, .slice none 0 0] 24)
        obtain ⟨q0, q1, q2, q3, t0, t1, t2, t3⟩ := hg5.four
        have HG5 := Lib.hid hg5
        have HB6 := Lib.hid (ballocs (bnext HB2.out HB5.out) (.cells #[.int .i64 0, .int .i64 0, .string ⟨#[]⟩, .slice none 0 0] 24))
        clear hb5 ho hg5 p0 p1 p2 p3
        go_wp2_with fail
        obtain ⟨r0, r1, r2, r3, _, _, _, _⟩ := (put4_blk HG5.out (.int .i64 0) (.int .i64 0) (.string ⟨#[]⟩) (.slice none 0 0)).four
        unfold put4 at r0 r1 r2 r3
        exact bodyPost_ret (v := .tuple #[.agg #[.int .i64 0, .int .i64 0, .string ⟨#[]⟩, .slice none 0 0], .bool false]) (by simp [results, Try.results21, go_sem, r0, r1, r2, r3]) rfl (HNO.out _ HB6.out HE2.out)
      · have HE2 := Lib.hid (show filledF P l = if mayT t = true then some t else none from by rw [← HE.out, HR.out, HMP.out, ho]; rfl)
        have HNT := Lib.hid (HFN.out t (by rw [← HEF.out]; exact ho))
        unfold tv at ht ⊢
        obtain ⟨W6, hW6⟩ : ∃ W6, w5.alloc (.cells #[.int .i64 t.k, .int .i64 t.n, .string t.s, .slice At t.l.length ct] 24) = W6 := ⟨_, rfl⟩
        have hb6 : Below w5.heap.size w5 W6 := by rw [← hW6]; exact ballocs (Below.refl _ _) _
        have hgt : Blk W6 w5.heap.size 24 #[.int .i64 t.k, .int .i64 t.n, .string t.s, .slice At t.l.length ct] := by rw [← hW6]; exact Blk.new _ _ _
        have HT6 := Lib.hid (TA.later ht hb6)
        have HB6 := Lib.hid (bnext HB5.out hb6)
        have HGT := Lib.hid hgt
        have HC6 := Lib.hid (rcheck_any t _ W6 HT6.out HNT.out)
        obtain ⟨y, hy⟩ : ∃ y, chk t = y := ⟨_, rfl⟩
        have HMT := Lib.hid (show mayT t = decide (y = 0) from by unfold mayT; rw [hy])
        rw [hy] at HC6
        obtain ⟨u0, u1, u2, u3, _, _, _, _⟩ := hgt.four
        clear hb5 ho ht hb6 hgt p0 p1 p2 p3 hy
        subst hW6
        go_wp2_with fail
        refine HC6.out.mono ?_
        rintro e w7 ⟨rfl, hb7⟩
        have HB7 := Lib.hid (bnext HB6.out hb7)
        have HG7 := Lib.hid (HGR.out.below HB7.out HGR.out.lt)
        have HGT7 := Lib.hid (HGT.out.below hb7 HGT.out.lt)
        have HT7 := Lib.hid (HT6.out.later hb7)
        clear hb7 u0 u1 u2 u3
        by_cases h2 : y = 0
        · subst h2
          have HE3 := Lib.hid (show filledF P l = some t from by rw [HE2.out, HMT.out]; rfl)
          have HCP := Lib.hid (rcopy_any t HNT.out _ w7 HT7.out)
          obtain ⟨u0, u1, u2, u3, _, _, _, _⟩ := HGT7.out.four
          go_wp2_with fail
          refine HCP.out.mono ?_
          rintro e w8 ⟨v8, rfl, hx8, hb8⟩
          obtain ⟨A8, c8, rfl, _, _⟩ := hx8.inv
          have HB8 := Lib.hid (bnext HB2.out (bnext HB7.out hb8))
          have HG8 := Lib.hid (HG7.out.below hb8 HG7.out.lt)
          obtain ⟨q0, q1, q2, q3, t0, t1, t2, t3⟩ := HG8.out.four
          have HX8 := Lib.hid hx8
          clear hx8 hb8 u0 u1 u2 u3
          unfold tv
          go_wp2_with fail
          obtain ⟨r0, r1, r2, r3, _, _, _, _⟩ := (put4_blk HG8.out (.int .i64 t.k) (.int .i64 t.n) (.string t.s) (.slice A8 t.l.length c8)).four
          rw [HE3.out]
          refine bodyPost_ret (v := .tuple #[tv t A8 c8, .bool true]) (by unfold put4 at r0 r1 r2 r3; unfold tv; simp [results, Try.results21, go_sem, r0, r1, r2, r3]) rfl ?_
          have hz := put4_size w8 (w.heap.size + 1) (.int .i64 t.k) (.int .i64 t.n) (.string t.s) (.slice A8 t.l.length c8)
          have hlt := HG7.out.lt
          have hk := put4_keep (Keep.refl (fun x => x = w.heap.size + 1) w8) (g := w.heap.size + 1) (.inl rfl) (.int .i64 t.k) (.int .i64 t.n) (.string t.s) (.slice A8 t.l.length c8)
          exact ⟨put4_below HB8.out (Nat.le_succ _) _ _ _ _, .inr ⟨t, A8, c8, rfl, rfl, (HX8.out.keepF hk (fun b hb => hb.2) (fun b hb e => by have := hb.1; omega)).mono (fun b hb => by show b < (put4 w8 (w.heap.size + 1) (.int .i64 t.k) (.int .i64 t.n) (.string t.s) (.slice A8 t.l.length c8)).heap.size; rw [hz]; exact hb.2)⟩⟩
        · have hyf : (y == 0) = false := by simpa using h2
          have hyf2 : (y != 0) = true := by simpa using h2
          have HE3 := Lib.hid (show filledF P l = none from by rw [HE2.out, HMT.out, decide_eq_false h2]; rfl)
          obtain ⟨q0, q1, q2, q3, t0, t1, t2, t3⟩ := HG7.out.four
          clear h2
          go_wp2_with fail
          obtain ⟨r0, r1, r2, r3, _, _, _, _⟩ := (put4_blk HG7.out (.int .i64 0) (.int .i64 0) (.string ⟨#[]⟩) (.slice none 0 0)).four
          unfold put4 at r0 r1 r2 r3
          exact bodyPost_ret (v := .tuple #[.agg #[.int .i64 0, .int .i64 0, .string ⟨#[]⟩, .slice none 0 0], .bool false]) (by simp [results, Try.results21, go_sem, r0, r1, r2, r3]) rfl (HNO.out _ (bnext HB2.out HB7.out) HE3.out)
  · have hzf : (z == 0) = false := by simpa using h1
    have hzf2 : (z != 0) = true := by simpa using h1
    have HE2 := Lib.hid (show filledF P l = none from by rw [← HE.out, HM.out, decide_eq_false h1]; simp)
    clear h1
    go_enter Try.func21, Try.ntmps21
    go_wp2_with fail
    rw [HW2.out]
    refine HCk.out.mono ?_
    rintro e w3 ⟨rfl, hb3⟩
    have HG3 := Lib.hid (HGR.out.below hb3 HGR.out.lt)
    obtain ⟨q0, q1, q2, q3, t0, t1, t2, t3⟩ := HG3.out.four
    have HB3 := Lib.hid (bnext HB2.out hb3)
    clear hb3 p0 p1 p2 p3
    go_wp2_with fail
    obtain ⟨r0, r1, r2, r3, _, _, _, _⟩ := (put4_blk HG3.out (.int .i64 0) (.int .i64 0) (.string ⟨#[]⟩) (.slice none 0 0)).four
    unfold put4 at r0 r1 r2 r3
    exact bodyPost_ret (v := .tuple #[.agg #[.int .i64 0, .int .i64 0, .string ⟨#[]⟩, .slice none 0 0], .bool false]) (by simp [results, Try.results21, go_sem, r0, r1, r2, r3]) rfl (HNO.out _ HB3.out HE2.out)
end Go.Proofs.Ytlaplakaifmpeaa.Pt
