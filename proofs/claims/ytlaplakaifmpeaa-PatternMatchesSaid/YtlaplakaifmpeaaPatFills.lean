/- pattern.Fill and pattern.Find, by contracts. -/
import Derived.Test.YtlaplakaifmpeaaPatFill
import Derived.Test.YtlaplakaifmpeaaCopyTm
namespace Go.Proofs.Ytlaplakaifmpeaa.Pt
open Go.RowKit K Go.Shelf
set_option linter.unusedVariables false
set_option linter.unusedSimpArgs false

theorem bfold_mem {l : List Bnd} {n : Nat} {t : Tm} (h : bfold l n = some t) : ∃ q ∈ l, q.2 = t := by
  have : ∀ (l : List Bnd) (b : Bf), (l.foldl (fun b p => upd b p.1.toNat p.2) b) n = some t → b n = some t ∨ ∃ q ∈ l, q.2 = t := fun l => by
    induction l with
    | nil => intro b h; exact .inl h
    | cons p r ih =>
      intro b h
      rcases ih _ h with h | ⟨q, hq, e⟩
      · replace h : upd b p.1.toNat p.2 n = some t := h
        unfold upd at h
        by_cases e : n = p.1.toNat
        · rw [if_pos e] at h
          injection h with h
          exact .inr ⟨p, List.mem_cons_self .., h⟩
        · rw [if_neg e] at h
          exact .inl h
      · exact .inr ⟨q, List.mem_cons_of_mem _ hq, e⟩
  rcases this l _ h with h | h
  · cases h
  · exact h
theorem fill_nodes {b : Bf} {M : Nat} (hM : 1 ≤ M) (hb : ∀ n t, b n = some t → nodes t ≤ M) : ∀ p t, fillP p b = some t → nodes t ≤ nodes p * M := by
  refine Tm.ind fun p ih t h => ?_
  obtain ⟨k, n, s, l⟩ := p
  simp only [Tm.l_mk] at ih
  have hL : ∀ (r : List Tm), (∀ u ∈ r, u ∈ l) → ∀ l', fillL r b = some l' → nodesL l' ≤ nodesL r * M := fun r => by
    induction r with
    | nil => intro _ l' h; rw [fillL_nil] at h; injection h with h; subst h; simp [nodesL_nil]
    | cons u r ihr =>
      intro hr l' h
      rw [fillL_cons] at h
      cases hp : fillP u b with
      | none => rw [hp] at h; cases h
      | some t =>
        cases hr2 : fillL r b with
        | none => rw [hp, hr2] at h; cases h
        | some x =>
          rw [hp, hr2] at h
          injection h with h
          subst h
          have h1 := ih u (hr u (List.mem_cons_self ..)) t hp
          have h2 := ihr (fun v hv => hr v (List.mem_cons_of_mem _ hv)) x hr2
          simp only [nodesL_cons]
          rw [Nat.add_mul]
          omega
  have hp1 : 1 ≤ nodes (.mk k n s l) := nodes_pos _
  have hself : nodes (.mk k n s l) ≤ nodes (.mk k n s l) * M := Nat.le_mul_of_pos_right _ hM
  have hMp : M ≤ nodes (.mk k n s l) * M := Nat.le_mul_of_pos_left _ hp1
  rw [fillP] at h
  split at h
  · split at h
    · cases h
    · split at h
      · exact Nat.le_trans (hb _ _ h) hMp
      · injection h with h; subst h; exact hself
  · split at h
    · cases hl : fillL l b with
      | none => rw [hl] at h; cases h
      | some x =>
        rw [hl] at h
        injection h with h
        subst h
        have := hL l (fun u hu => hu) x hl
        rw [nodes_mk, nodes_mk, Nat.add_mul]
        omega
    · injection h with h; subst h; exact hself
/-- A pattern filled with bindings. -/
noncomputable def filledF (p : Tm) (l : List Bnd) : Option Tm := if okFrom (-1) l = true ∧ mayT p = true then (fillP p (bfold l)).bind fun t => if mayT t = true then some t else none else none
/-- What a variable is bound to. -/
noncomputable def findF (l : List Bnd) (n : Int) : Option Tm := if okFrom (-1) l = true ∧ 0 ≤ n ∧ n ≤ 99 then bfold l n.toNat else none
/-- A term told, in memory of its own, or none. -/
def OptPost (w : World) (o : Option Tm) (e : Ending) (w' : World) : Prop :=
  Below w.heap.size w w' ∧ ((o = none ∧ e = .returned (.tuple #[.agg #[.int .i64 0, .int .i64 0, .string ⟨#[]⟩, .slice none 0 0], .bool false])) ∨
    ∃ (t : Tm) (A : Option Addr) (c : Nat), o = some t ∧ e = .returned (.tuple #[tv t A c, .bool true]) ∧ TAt w' (Fr w w') t (tv t A c) ∧ Wk w' (Fr w w') LV (tv t A c) ∧ nodes t ≤ 1048576)
/-- The end: a term's copy, stored in the result's block. -/
theorem opt_end {g : Nat} {w w7 w8 : World} {t : Tm} {A : Option Addr} {c : Nat} (hg : g = w.heap.size ∨ g = w.heap.size + 1) (hB7 : Below w.heap.size w w7) (hlt : g < w7.heap.size) (hx : TAt w8 (Fr w7 w8) t (tv t A c)) (hb : Below w7.heap.size w7 w8) (hw : Wk w8 (Fr w7 w8) (nodes t + 1) (tv t A c)) (hn : nodes t ≤ 1048576) :
    OptPost w (some t) (.returned (.tuple #[tv t A c, .bool true])) (put4 w8 g (.int .i64 t.k) (.int .i64 t.n) (.string t.s) (.slice A t.l.length c)) := by
  have hk := put4_keep (Keep.refl (fun x => x = g) w8) (g := g) (.inl rfl) (.int .i64 t.k) (.int .i64 t.n) (.string t.s) (.slice A t.l.length c)
  have hd : ∀ b, Fr w7 w8 b → ¬ b = g := fun b hb e => by have := hb.1; omega
  have hz := put4_size w8 g (.int .i64 t.k) (.int .i64 t.n) (.string t.s) (.slice A t.l.length c)
  have hsub : ∀ b, Fr w7 w8 b → Fr w (put4 w8 g (.int .i64 t.k) (.int .i64 t.n) (.string t.s) (.slice A t.l.length c)) b := fun b hb => ⟨by have := hb.1; have := hB7.size; omega, by rw [hz]; exact hb.2⟩
  exact ⟨put4_below (bnext hB7 hb) (by omega) _ _ _ _, .inr ⟨t, A, c, rfl, rfl, (hx.keepF hk (fun b hb => hb.2) hd).mono hsub, ((hw.keep hk hd).mono hsub).up (by unfold LV; omega), hn⟩⟩
set_option maxRecDepth 100000 in
set_option maxHeartbeats 8000000 in
theorem pfill_any (p : Tm) (l : List Bnd) (vp : Value) (A : Option Addr) (c : Nat) (w : World) (hp : TA w p vp) (hl : BsAt w (· < w.heap.size) A l) (hlm : l.length ≤ maxLen) (hnp : nodes p ≤ 1000) (hnl : ∀ q ∈ l, nodes q.2 ≤ 1000) :
    Calls Try.prog 20 #[vp, .slice A l.length c] w (OptPost w (filledF p l)) := by
  have hp0 := hp
  obtain ⟨pk, pn, ps, pl, Ap, cp, rfl, rfl, okp, hlp⟩ := hp.open_
  obtain ⟨W2, hW2⟩ : ∃ W2, (w.alloc (.cells #[.int .i64 pk, .int .i64 pn, .string ps, .slice Ap pl.length cp] 24)).alloc (.cells #[.int .i64 0, .int .i64 0, .string ⟨#[]⟩, .slice none 0 0] 24) = W2 := ⟨_, rfl⟩
  have hb2 : Below w.heap.size w W2 := by rw [← hW2]; exact ballocs (ballocs (Below.refl _ _) _) _
  have hgp : Blk W2 w.heap.size 24 #[.int .i64 pk, .int .i64 pn, .string ps, .slice Ap pl.length cp] := by rw [← hW2]; exact (Blk.new _ _ _).alloc _
  have hgr : Blk W2 (w.heap.size + 1) 24 #[.int .i64 0, .int .i64 0, .string ⟨#[]⟩, .slice none 0 0] := by
    rw [← hW2]
    have := Blk.new (w.alloc (.cells #[.int .i64 pk, .int .i64 pn, .string ps, .slice Ap pl.length cp] 24)) 24 #[.int .i64 0, .int .i64 0, .string ⟨#[]⟩, .slice none 0 0]
    simp only [World.size_alloc] at this
    exact this
  have HRD := Lib.hid (read_any l A c w.heap.size W2 hlm (hl.keep fun q hq => hb2.cell hq) hb2.size (fun q hq => by have := hnl q hq; omega))
  obtain ⟨P, hP⟩ : ∃ P, Tm.mk pk pn ps pl = P := ⟨_, rfl⟩
  rw [hP] at hp0 hnp ⊢
  have HP := Lib.hid hp0
  have HB2 := Lib.hid hb2
  have HGP := Lib.hid hgp
  have HGR := Lib.hid hgr
  have HW2 := Lib.hid hW2
  have HNP := Lib.hid hnp
  have HFN := Lib.hid (show ∀ t, fillP P (bfold l) = some t → nodes t ≤ 1048576 from fun t ht => by
    have := fill_nodes (b := bfold l) (M := 1000) (by omega) (fun n t h => by obtain ⟨q, hq, e⟩ := bfold_mem h; rw [← e]; exact hnl q hq) P t ht
    have : nodes P * 1000 ≤ 1000 * 1000 := Nat.mul_le_mul_right _ hnp
    omega)
  clear hp hp0 okp hlp hb2 hgp hgr hW2 hP hl hnp hnl hlm
  go_enter Try.func20, Try.ntmps20
  go_wp2_with fail
  rw [HW2.out]
  have HNO := Lib.hid (show ∀ w', Below w.heap.size w w' → filledF P l = none → OptPost w (filledF P l) (.returned (.tuple #[.agg #[.int .i64 0, .int .i64 0, .string ⟨#[]⟩, .slice none 0 0], .bool false])) (put4 w' (w.heap.size + 1) (.int .i64 0) (.int .i64 0) (.string ⟨#[]⟩) (.slice none 0 0)) from fun w' h0 he => ⟨put4_below h0 (Nat.le_succ _) _ _ _ _, .inl ⟨he, rfl⟩⟩)
  refine HRD.out.mono ?_
  rintro e w3 (⟨ho, rfl, hb⟩ | ⟨ho, rfl, hbd, hb⟩)
  · have HE := Lib.hid (show filledF P l = none from by unfold filledF; rw [if_neg (by rw [ho]; simp)])
    have HB3 := Lib.hid (bnext HB2.out hb)
    have HGR3 := Lib.hid (HGR.out.below hb HGR.out.lt)
    obtain ⟨q0, q1, q2, q3, t0, t1, t2, t3⟩ := HGR3.out.four
    clear hb ho
    go_wp2_with fail
    obtain ⟨r0, r1, r2, r3, _, _, _, _⟩ := (put4_blk HGR3.out (.int .i64 0) (.int .i64 0) (.string ⟨#[]⟩) (.slice none 0 0)).four
    exact bodyPost_ret (v := .tuple #[.agg #[.int .i64 0, .int .i64 0, .string ⟨#[]⟩, .slice none 0 0], .bool false]) (by unfold put4 at r0 r1 r2 r3; simp [results, Try.results20, go_sem, r0, r1, r2, r3]) rfl (HNO.out _ HB3.out HE.out)
  · have HO := Lib.hid ho
    have HBD := Lib.hid hbd
    have HB3 := Lib.hid (bnext HB2.out hb)
    have HGP3 := Lib.hid (HGP.out.below hb HGP.out.lt)
    have HGR3 := Lib.hid (HGR.out.below hb HGR.out.lt)
    obtain ⟨p0, p1, p2, p3, _, _, _, _⟩ := HGP3.out.four
    clear hb ho hbd
    have HMP := Lib.hid (may_any P _ w3 (HP.out.later HB3.out) (by have := HNP.out; omega))
    cases hmp : mayT P with
    | false =>
      have HE := Lib.hid (show filledF P l = none from by unfold filledF; rw [if_neg (by rw [hmp]; simp)])
      rw [hmp] at HMP
      clear hmp
      go_wp2_with fail
      refine HMP.out.mono ?_
      rintro e w4 ⟨rfl, hb⟩
      have HB4 := Lib.hid (bnext HB3.out hb)
      have HGR4 := Lib.hid (HGR3.out.below hb HGR3.out.lt)
      obtain ⟨q0, q1, q2, q3, t0, t1, t2, t3⟩ := HGR4.out.four
      clear hb p0 p1 p2 p3
      go_wp2_with fail
      obtain ⟨r0, r1, r2, r3, _, _, _, _⟩ := (put4_blk HGR4.out (.int .i64 0) (.int .i64 0) (.string ⟨#[]⟩) (.slice none 0 0)).four
      exact bodyPost_ret (v := .tuple #[.agg #[.int .i64 0, .int .i64 0, .string ⟨#[]⟩, .slice none 0 0], .bool false]) (by unfold put4 at r0 r1 r2 r3; simp [results, Try.results20, go_sem, r0, r1, r2, r3]) rfl (HNO.out _ HB4.out HE.out)
    | true =>
      have HE := Lib.hid (show filledF P l = (fillP P (bfold l)).bind fun t => if mayT t = true then some t else none from by unfold filledF; rw [if_pos ⟨HO.out, hmp⟩])
      rw [hmp] at HMP
      clear hmp
      go_wp2_with fail
      refine HMP.out.mono ?_
      rintro e w4 ⟨rfl, hb⟩
      have HB4 := Lib.hid (bnext HB3.out hb)
      have HGP4 := Lib.hid (HGP3.out.below hb HGP3.out.lt)
      have HGR4 := Lib.hid (HGR3.out.below hb HGR3.out.lt)
      have HBD4 := Lib.hid (HBD.out.later hb)
      obtain ⟨p0', p1', p2', p3', _, _, _, _⟩ := HGP4.out.four
      have HFI := Lib.hid (fill_any W2.heap.size w.heap.size (bfold l) P (by have := HNP.out; omega) _ w4 HBD4.out (TAt.under HP.out HB4.out (fun b h => h)))
      clear hb p0 p1 p2 p3
      go_wp2_with fail
      refine HFI.out.mono ?_
      rintro e w5 ⟨hb5, k6, m6, s6, A6, l6, c6, (⟨ho, rfl⟩ | ⟨t, ho, rfl, ht⟩)⟩
      · have HE2 := Lib.hid (show filledF P l = none from by rw [HE.out, ho]; rfl)
        have HB5 := Lib.hid (ballocs (bnext HB4.out hb5) (.cells #[.int .i64 k6, .int .i64 m6, .string s6, .slice A6 l6 c6] 24))
        have HGR5 := Lib.hid ((HGR4.out.below hb5 HGR4.out.lt).alloc (.cells #[.int .i64 k6, .int .i64 m6, .string s6, .slice A6 l6 c6] 24))
        obtain ⟨q0, q1, q2, q3, t0, t1, t2, t3⟩ := HGR5.out.four
        clear hb5 ho p0' p1' p2' p3'
        go_wp2_with fail
        obtain ⟨r0, r1, r2, r3, _, _, _, _⟩ := (put4_blk HGR5.out (.int .i64 0) (.int .i64 0) (.string ⟨#[]⟩) (.slice none 0 0)).four
        exact bodyPost_ret (v := .tuple #[.agg #[.int .i64 0, .int .i64 0, .string ⟨#[]⟩, .slice none 0 0], .bool false]) (by unfold put4 at r0 r1 r2 r3; simp [results, Try.results20, go_sem, r0, r1, r2, r3]) rfl (HNO.out _ HB5.out HE2.out)
      · have HE2 := Lib.hid (show filledF P l = if mayT t = true then some t else none from by rw [HE.out, ho]; rfl)
        have HNT := Lib.hid (HFN.out t ho)
        obtain ⟨W6, hW6⟩ : ∃ W6, w5.alloc (.cells #[.int .i64 k6, .int .i64 m6, .string s6, .slice A6 l6 c6] 24) = W6 := ⟨_, rfl⟩
        have hb56 : Below w5.heap.size w5 W6 := by rw [← hW6]; exact ballocs (Below.refl _ _) _
        have HB6 := Lib.hid (bnext (bnext HB4.out hb5) hb56)
        have hgr6 := (HGR4.out.below hb5 HGR4.out.lt).below hb56 (by have := (HGR4.out.below hb5 HGR4.out.lt).lt; exact this)
        have HGR6 := Lib.hid hgr6
        have hgt6 : Blk W6 w5.heap.size 24 #[.int .i64 k6, .int .i64 m6, .string s6, .slice A6 l6 c6] := by rw [← hW6]; exact Blk.new _ _ _
        have HGT6 := Lib.hid hgt6
        have HT6 := Lib.hid (show TA W6 t (.agg #[.int .i64 k6, .int .i64 m6, .string s6, .slice A6 l6 c6]) from TA.later (w := w5) (ht.mono (fun b hb => by rcases hb with hb | hb; have := HB4.out.size; have := hb5.size; omega; exact hb.2)) hb56)
        have HMT := Lib.hid (may_any t _ W6 HT6.out HNT.out)
        obtain ⟨p0, p1, p2, p3, _, _, _, _⟩ := hgt6.four
        subst hW6
        clear hb5 ho ht hb56 hgr6 hgt6 p0' p1' p2' p3'
        cases hmt : mayT t with
        | false =>
          have HE3 := Lib.hid (show filledF P l = none from by rw [HE2.out, hmt]; rfl)
          rw [hmt] at HMT
          clear hmt
          go_wp2_with fail
          refine HMT.out.mono ?_
          rintro e w7 ⟨rfl, hb7⟩
          have HB7 := Lib.hid (bnext HB6.out hb7)
          have HGR7 := Lib.hid (HGR6.out.below hb7 HGR6.out.lt)
          obtain ⟨q0, q1, q2, q3, t0, t1, t2, t3⟩ := HGR7.out.four
          clear hb7 p0 p1 p2 p3
          go_wp2_with fail
          obtain ⟨r0, r1, r2, r3, _, _, _, _⟩ := (put4_blk HGR7.out (.int .i64 0) (.int .i64 0) (.string ⟨#[]⟩) (.slice none 0 0)).four
          exact bodyPost_ret (v := .tuple #[.agg #[.int .i64 0, .int .i64 0, .string ⟨#[]⟩, .slice none 0 0], .bool false]) (by unfold put4 at r0 r1 r2 r3; simp [results, Try.results20, go_sem, r0, r1, r2, r3]) rfl (HNO.out _ HB7.out HE3.out)
        | true =>
          have HE3 := Lib.hid (show filledF P l = some t from by rw [HE2.out, hmt]; rfl)
          rw [hmt] at HMT
          clear hmt
          go_wp2_with fail
          refine HMT.out.mono ?_
          rintro e w7 ⟨rfl, hb7⟩
          have HB7 := Lib.hid (bnext HB6.out hb7)
          have HGR7 := Lib.hid (HGR6.out.below hb7 HGR6.out.lt)
          have HGT7 := Lib.hid (HGT6.out.below hb7 HGT6.out.lt)
          have HCP := Lib.hid (copyT_any t HNT.out _ w7 (HT6.out.later hb7))
          obtain ⟨p0', p1', p2', p3', _, _, _, _⟩ := HGT7.out.four
          clear hb7 p0 p1 p2 p3
          go_wp2_with fail
          refine HCP.out.mono ?_
          rintro e w8 ⟨v8, rfl, hx8, hb8, hw8⟩
          obtain ⟨A8, c8, rfl, _, _⟩ := hx8.inv
          have HEND := Lib.hid (opt_end (g := w.heap.size + 1) (.inr rfl) HB7.out HGR7.out.lt hx8 hb8 hw8 HNT.out)
          have HGR8 := Lib.hid (HGR7.out.below hb8 HGR7.out.lt)
          obtain ⟨q0, q1, q2, q3, t0, t1, t2, t3⟩ := HGR8.out.four
          clear hx8 hb8 hw8 p0' p1' p2' p3'
          unfold tv
          go_wp2_with fail
          obtain ⟨r0, r1, r2, r3, _, _, _, _⟩ := (put4_blk HGR8.out (.int .i64 t.k) (.int .i64 t.n) (.string t.s) (.slice A8 t.l.length c8)).four
          rw [HE3.out]
          exact bodyPost_ret (v := .tuple #[tv t A8 c8, .bool true]) (by unfold put4 at r0 r1 r2 r3; unfold tv; simp [results, Try.results20, go_sem, r0, r1, r2, r3]) rfl HEND.out
set_option maxRecDepth 100000 in
set_option maxHeartbeats 8000000 in
theorem pfind_any (l : List Bnd) (n : Int) (A : Option Addr) (c : Nat) (w : World) (hl : BsAt w (· < w.heap.size) A l) (hlm : l.length ≤ maxLen) (hnl : ∀ q ∈ l, nodes q.2 ≤ 1048576) (hwn : (Lit.int .i64 n).wf = true) :
    Calls Try.prog 22 #[.slice A l.length c, .int .i64 n] w (OptPost w (findF l n)) := by
  obtain ⟨W2, hW2⟩ : ∃ W2, w.alloc (.cells #[.int .i64 0, .int .i64 0, .string ⟨#[]⟩, .slice none 0 0] 24) = W2 := ⟨_, rfl⟩
  have hb2 : Below w.heap.size w W2 := by rw [← hW2]; exact ballocs (Below.refl _ _) _
  have hgr : Blk W2 w.heap.size 24 #[.int .i64 0, .int .i64 0, .string ⟨#[]⟩, .slice none 0 0] := by rw [← hW2]; exact Blk.new _ _ _
  have HRD := Lib.hid (read_any l A c w.heap.size W2 hlm (hl.keep fun q hq => hb2.cell hq) hb2.size hnl)
  have HB2 := Lib.hid hb2
  have HGR := Lib.hid hgr
  have HW2 := Lib.hid hW2
  have HNL := Lib.hid (show ∀ q t, bfold l q = some t → nodes t ≤ 1048576 from fun q t h => by obtain ⟨p, hp, e⟩ := bfold_mem h; rw [← e]; exact hnl p hp)
  have HNO := Lib.hid (show ∀ w', Below w.heap.size w w' → findF l n = none → OptPost w (findF l n) (.returned (.tuple #[.agg #[.int .i64 0, .int .i64 0, .string ⟨#[]⟩, .slice none 0 0], .bool false])) (put4 w' w.heap.size (.int .i64 0) (.int .i64 0) (.string ⟨#[]⟩) (.slice none 0 0)) from fun w' h0 he => ⟨put4_below h0 (Nat.le_refl _) _ _ _ _, .inl ⟨he, rfl⟩⟩)
  have hw1 : -9223372036854775808 ≤ n ∧ n ≤ 9223372036854775807 := by simp [Lit.wf, IntKind.min, IntKind.max, IntKind.bits, IntKind.signed] at hwn; omega
  clear hb2 hgr hW2 hl hnl hlm hwn
  go_enter Try.func22, Try.ntmps22
  go_wp2_with fail
  rw [HW2.out]
  refine HRD.out.mono ?_
  rintro e w3 (⟨ho, rfl, hb⟩ | ⟨ho, rfl, hbd, hb⟩)
  · have HE := Lib.hid (show findF l n = none from by unfold findF; rw [if_neg (by rw [ho]; simp)])
    have HB3 := Lib.hid (bnext HB2.out hb)
    have HGR3 := Lib.hid (HGR.out.below hb HGR.out.lt)
    obtain ⟨q0, q1, q2, q3, t0, t1, t2, t3⟩ := HGR3.out.four
    clear hb ho
    go_wp2_with fail
    obtain ⟨r0, r1, r2, r3, _, _, _, _⟩ := (put4_blk HGR3.out (.int .i64 0) (.int .i64 0) (.string ⟨#[]⟩) (.slice none 0 0)).four
    exact bodyPost_ret (v := .tuple #[.agg #[.int .i64 0, .int .i64 0, .string ⟨#[]⟩, .slice none 0 0], .bool false]) (by unfold put4 at r0 r1 r2 r3; simp [results, Try.results22, go_sem, r0, r1, r2, r3]) rfl (HNO.out _ HB3.out HE.out)
  · have HO := Lib.hid ho
    have HBD := Lib.hid hbd
    have HB3 := Lib.hid (bnext HB2.out hb)
    have HGR3 := Lib.hid (HGR.out.below hb HGR.out.lt)
    clear hb ho hbd
    by_cases hn0 : n < 0
    · have HE := Lib.hid (show findF l n = none from by unfold findF; rw [if_neg (by omega)])
      obtain ⟨q0, q1, q2, q3, t0, t1, t2, t3⟩ := HGR3.out.four
      go_wp2_with fail
      obtain ⟨r0, r1, r2, r3, _, _, _, _⟩ := (put4_blk HGR3.out (.int .i64 0) (.int .i64 0) (.string ⟨#[]⟩) (.slice none 0 0)).four
      exact bodyPost_ret (v := .tuple #[.agg #[.int .i64 0, .int .i64 0, .string ⟨#[]⟩, .slice none 0 0], .bool false]) (by unfold put4 at r0 r1 r2 r3; simp [results, Try.results22, go_sem, r0, r1, r2, r3]) rfl (HNO.out _ HB3.out HE.out)
    by_cases hn9 : 99 < n
    · have HE := Lib.hid (show findF l n = none from by unfold findF; rw [if_neg (by omega)])
      obtain ⟨q0, q1, q2, q3, t0, t1, t2, t3⟩ := HGR3.out.four
      go_wp2_with fail
      obtain ⟨r0, r1, r2, r3, _, _, _, _⟩ := (put4_blk HGR3.out (.int .i64 0) (.int .i64 0) (.string ⟨#[]⟩) (.slice none 0 0)).four
      exact bodyPost_ret (v := .tuple #[.agg #[.int .i64 0, .int .i64 0, .string ⟨#[]⟩, .slice none 0 0], .bool false]) (by unfold put4 at r0 r1 r2 r3; simp [results, Try.results22, go_sem, r0, r1, r2, r3]) rfl (HNO.out _ HB3.out HE.out)
    obtain ⟨q, rfl⟩ : ∃ q : Nat, n = (q : Int) := ⟨n.toNat, by omega⟩
    have hq : q < 100 := by omega
    have HE := Lib.hid (show findF l (q : Int) = bfold l q from by unfold findF; rw [if_pos ⟨HO.out, by omega, by omega⟩]; rfl)
    have HHAS := Lib.hid (HBD.out.has hq)
    cases hbq : bfold l q with
    | none =>
      have HE2 := Lib.hid (HE.out.trans hbq)
      rw [hbq] at HHAS
      clear hbq
      obtain ⟨q0, q1, q2, q3, t0, t1, t2, t3⟩ := HGR3.out.four
      go_wp2_with fail
      refine HHAS.out.mono ?_
      rintro e w4 ⟨rfl, rfl⟩
      go_wp2_with fail
      obtain ⟨r0, r1, r2, r3, _, _, _, _⟩ := (put4_blk HGR3.out (.int .i64 0) (.int .i64 0) (.string ⟨#[]⟩) (.slice none 0 0)).four
      exact bodyPost_ret (v := .tuple #[.agg #[.int .i64 0, .int .i64 0, .string ⟨#[]⟩, .slice none 0 0], .bool false]) (by unfold put4 at r0 r1 r2 r3; simp [results, Try.results22, go_sem, r0, r1, r2, r3]) rfl (HNO.out _ HB3.out HE2.out)
    | some t =>
      have HE2 := Lib.hid (HE.out.trans hbq)
      obtain ⟨kq, mq, sq, Aq, lq, cq, ⟨c0, c1, c2, c3⟩, _, hsq, _⟩ := HBD.out.2.2 q hq
      have hsq := (hsq t hbq)
      have HCP := Lib.hid (copyT_any t hsq.2 _ w3 (hsq.1.mono fun b hb => by have := HB3.out.size; omega))
      have HNT := Lib.hid hsq.2
      rw [hbq] at HHAS
      clear hbq hsq
      go_wp2_with fail
      refine HHAS.out.mono ?_
      rintro e w4 ⟨rfl, rfl⟩
      go_wp2_with fail
      refine HCP.out.mono ?_
      rintro e w8 ⟨v8, rfl, hx8, hb8, hw8⟩
      obtain ⟨A8, c8, rfl, _, _⟩ := hx8.inv
      have HEND := Lib.hid (opt_end (g := w.heap.size) (.inl rfl) HB3.out HGR3.out.lt hx8 hb8 hw8 HNT.out)
      have HGR8 := Lib.hid (HGR3.out.below hb8 HGR3.out.lt)
      obtain ⟨q0, q1, q2, q3, t0, t1, t2, t3⟩ := HGR8.out.four
      clear hx8 hb8 hw8 c0 c1 c2 c3
      unfold tv
      go_wp2_with fail
      obtain ⟨r0, r1, r2, r3, _, _, _, _⟩ := (put4_blk HGR8.out (.int .i64 t.k) (.int .i64 t.n) (.string t.s) (.slice A8 t.l.length c8)).four
      rw [HE2.out]
      exact bodyPost_ret (v := .tuple #[tv t A8 c8, .bool true]) (by unfold put4 at r0 r1 r2 r3; unfold tv; simp [results, Try.results22, go_sem, r0, r1, r2, r3]) rfl HEND.out
end Go.Proofs.Ytlaplakaifmpeaa.Pt
