/- The document's numbers: all atoms of a term get numbers. What the document's laying has in hand: its table, and a layer whose row grows; what it changes lies in M. -/
import Derived.Test.YtfcialleekfjmaaFlPart
import Derived.Test.YtfcialleekfjmaaRef7
import Derived.Test.YtfcialleekfjmaaHeldZ
namespace Go.Proofs.Ytfcialleekfjmaa.Fl
open Go.RowKit K At Wd
set_option linter.unusedVariables false
set_option linter.unusedSimpArgs false
theorem RMoved.trans {w w1 w2 : World} {G : Nat → Prop} {h : Nat} {L L' : List ByteArray} (m : RMoved w G h L w1) (k : ∀ G', RTab w1 G' h L → RMoved w1 G' h L' w2) : RMoved w G h L' w2 := by
  obtain ⟨G1, hT, hs, hk⟩ := m
  obtain ⟨G2, hT2, hs2, hk2⟩ := k G1 hT
  refine ⟨G2, hT2, fun i hi => ?_, hk.trans hk2 (fun i hi hg => ?_)⟩
  · rcases hs2 i hi with h | h
    · exact hs i h
    · exact .inr (Nat.le_trans hk.size h)
  · rcases hs i hg with h | h
    · exact h
    · omega
theorem RMoved.from_ {w w1 w2 : World} {G : Nat → Prop} {h : Nat} {L : List ByteArray} (hb : Below w.heap.size w w1) (m : RMoved w1 G h L w2) : RMoved w G h L w2 := by
  obtain ⟨G1, hT, hs, hk⟩ := m
  exact ⟨G1, hT, fun i hi => (hs i hi).imp id (fun h => Nat.le_trans hb.size h), (Keep.new (F := G) hb).trans hk (fun _ _ h => h)⟩
theorem RTab.lt_ {w : World} {G : Nat → Prop} {h : Nat} {L : List ByteArray} (hT : RTab w G h L) : ∀ k, G k → k < w.heap.size := by
  obtain ⟨v, fl, _⟩ := hT
  exact fl
def NumC (t : Tm) : Prop := ∀ (vt : Value) (w : World) (G R : Nat → Prop) (gx h : Nat) (v : Value) (L : List ByteArray), RTab w G h L → Blk w gx 89 #[.pointer (some ⟨h, 0, none⟩), v] → ¬ G gx → TAt w R t vt → (∀ b, R b → b < w.heap.size ∧ ¬ G b) →
  Calls Try.prog 49 #[.pointer (some ⟨gx, 0, none⟩), vt] w fun e w' => e = .returned (.bool (nums t L).1) ∧ RMoved w G h (nums t L).2 w'
set_option maxRecDepth 100000 in
set_option maxHeartbeats 8000000 in
theorem numbers_any : ∀ t : Tm, NumC t := by
  refine Tm.ind fun t ih vt w G R gx h v L hT hX hgx ht hR => ?_
  obtain ⟨A, c, rfl, ok, hts⟩ := ht.inv
  obtain ⟨k, n, s, l⟩ := t
  simp only [Tm.l_mk, Tm.k_mk, Tm.n_mk, Tm.s_mk] at ih hts
  have hlen : l.length ≤ 9223372036854775807 := by have h1 : l.length ≤ c := ok.hl; have h2 := ok.hc; unfold maxLen at h2; omega
  have hsz : s.size ≤ maxLen := ok.ws
  unfold tv
  simp only [Tm.l_mk, Tm.k_mk, Tm.n_mk, Tm.s_mk]
  have hB := Blk.new w 24 #[.int .i64 k, .int .i64 n, .string s, .slice A l.length c]
  have hb0 := ballocs (Below.refl w.heap.size w) (.cells #[.int .i64 k, .int .i64 n, .string s, .slice A l.length c] 24)
  obtain ⟨w0, hw0⟩ : ∃ x, w.alloc (.cells #[.int .i64 k, .int .i64 n, .string s, .slice A l.length c] 24) = x := ⟨_, rfl⟩
  rw [hw0] at hB hb0
  have HT0 := Lib.hid (hT.keep (G := fun _ => False) (Keep.new hb0) (fun _ _ h => h) : RTab w0 G h L)
  have hX0 := hX.below hb0 hX.lt
  have HB0 := Lib.hid hb0; have HX0 := Lib.hid hX0; have HBX := Lib.hid hB; have HW0 := Lib.hid hw0; have HGX := Lib.hid hgx
  have HTS := Lib.hid (hts.under hb0 (fun b hb => (hR b hb).1))
  have HR := Lib.hid hR
  have HGL := Lib.hid (RTab.lt_ hT)
  obtain ⟨p0, p1, p2, p3, _, _, _, _⟩ := hB.four
  have x0 : w0.cell? ⟨gx, 0, none⟩ = some (.pointer (some ⟨h, 0, none⟩)) := by rw [hX0.cell]; rfl
  have hgl0 : gx < w0.heap.size := hX0.lt
  have hbl0 : w.heap.size < w0.heap.size := hB.lt
  clear hT hX hgx ht hR ok hts hb0 hX0 hB hw0
  by_cases h2 : k = 2
  · subst h2
    have HI := Lib.hid (rintern_any h L s w0.drew G HT0.out hsz)
    have HQ := Lib.hid (show (nums (.mk 2 n s l) L) = (decide (inE L s = 0), inL L s) from by rw [nums_mk, if_pos rfl])
    obtain ⟨y, hy⟩ : ∃ y, inE L s = y := ⟨_, rfl⟩
    rw [hy] at HI HQ
    obtain ⟨z, hz⟩ : ∃ z, inN L s = z := ⟨_, rfl⟩
    rw [hz] at HI
    clear ih hy hz
    go_enter Try.func49, Try.ntmps49
    go_wp2_with fail
    rw [HW0.out]
    go_region_with (go_at_call 46; refine HI.out.mono ?_; rintro e w2 ⟨rfl, hm⟩; have HM := Lib.hid hm; clear hm)
    all_goals
      go_wp2_with fail
      go_ret
      rw [HQ.out]
      refine ⟨ret1_b (by rw [Bool.eq_iff_iff]; simp), ?_⟩
      obtain ⟨G1, hT, hs, hk⟩ := HM.out
      exact RMoved.from_ HB0.out ⟨G1, hT, hs, ⟨hk.os, hk.tape, hk.output, hk.size, hk.block⟩⟩
  · have b2 : (k == 2) = false := by simpa using h2
    have HQ := Lib.hid (show (nums (.mk k n s l) L) = numsL l L from by rw [nums_mk, if_neg h2])
    have HIH := Lib.hid ih
    have HS0 := Lib.hid (show (numsL (l.take 0) L).1 = true ∧ RMoved w0 G h (numsL (l.take 0) L).2 w0 from by
      rw [List.take_zero, numsL_nil]
      exact ⟨rfl, RMoved.stay HT0.out⟩)
    clear ih h2
    go_enter Try.func49, Try.ntmps49
    go_wp2_with fail
    rw [HW0.out]
    go_loopw [7] (fun x wr => ∃ i : Nat, i ≤ l.length ∧ x = .int .i64 (i : Int) ∧ (numsL (l.take i) L).1 = true ∧ RMoved w0 G h (numsL (l.take i) L).2 wr) (fun x _ => l.length - (intOf x).toNat)
    case atStart => exact ⟨0, Nat.zero_le _, rfl, HS0.out⟩
    case round =>
      obtain ⟨i, hi, rfl, hok, hm⟩ := hrel
      have HM := Lib.hid hm; have HOK := Lib.hid hok
      obtain ⟨G1, hT1, hs1, hk1⟩ := hm
      have hnG : ∀ b, b < w0.heap.size → ¬ G b → ¬ G1 b := fun b h1 h2 h3 => by rcases hs1 b h3 with h | h; exact h2 h; omega
      have hBr := HBX.out.keep hk1 (fun h => by have := HGL.out _ h; omega)
      have hXr := HX0.out.keep hk1 HGX.out
      obtain ⟨q0, q1, q2, q3, _, _, _, _⟩ := hBr.four
      have hi0 : (0 : Int) ≤ (i : Int) := by omega
      have hle : (i : Int) ≤ (l.length : Int) := by omega
      by_cases hlt : i < l.length
      · obtain ⟨u, hu⟩ : ∃ u, l[i]? = some u := ⟨_, List.getElem?_eq_getElem hlt⟩
        have htr := HTS.out.keepF hk1 (fun b hb => by have := (HR.out b hb).1; omega) (fun b hb => (HR.out b hb).2)
        obtain ⟨bb, o, A1, c1, rfl, hb1, d0, d1, d2, d3, ok1, hta⟩ := htr.at_ hu
        have hil : (i : Int) < (l.length : Int) := by omega
        have HC := Lib.hid (HIH.out u (List.mem_of_getElem? hu) _ wr G1 R gx h v (numsL (l.take i) L).2 hT1 hXr (hnG gx (by omega) HGX.out) (TAt.of ok1 hta) (fun b hb => ⟨by have := (HR.out b hb).1; have := hk1.size; omega, hnG b (by have := (HR.out b hb).1; omega) (HR.out b hb).2⟩))
        have HU := Lib.hid hu
        have HB1 := Lib.hid (show RMoved w0 G h (numsL (l.take i) L).2 wr from ⟨G1, hT1, hs1, hk1⟩)
        have HGO := Lib.hid (fun w2 (m : RMoved wr G1 h (nums u (numsL (l.take i) L).2).2 w2) => (show RMoved w0 G h (nums u (numsL (l.take i) L).2).2 w2 from by
          obtain ⟨G2, hT2, hs2, hk2⟩ := m
          refine ⟨G2, hT2, fun j hj => ?_, hk1.trans hk2 (fun j hj hg => ?_)⟩
          · rcases hs2 j hj with h | h
            · exact hs1 j h
            · exact .inr (Nat.le_trans hk1.size h)
          · rcases hs1 j hg with h | h
            · exact h
            · omega))
        unfold tv at HC
        clear hok hT1 hs1 hk1 hnG hBr hXr htr hta ok1 hu
        go_wp2_with fail
        refine HC.out.mono ?_
        rintro e w2 ⟨rfl, hm2⟩
        have HM2 := Lib.hid (HGO.out _ hm2)
        cases hb : (nums u (numsL (l.take i) L).2).1 with
        | true =>
          have HBT := Lib.hid hb
          clear hm2 hb
          go_wp2_with fail
          refine ⟨⟨i + 1, by omega, by go_num, ?_, ?_⟩, by simp [intOf]; omega⟩
          · rw [numsL_snoc L HU.out HOK.out]; exact HBT.out
          · rw [numsL_snoc L HU.out HOK.out]; exact HM2.out
        | false =>
          have HBT := Lib.hid hb
          clear hm2 hb
          go_wp2_with fail
          go_ret
          rw [HQ.out, numsL_stop HU.out HOK.out HBT.out]
          exact ⟨ret1_b rfl, RMoved.from_ HB0.out HM2.out⟩
      · obtain rfl : i = l.length := by omega
        rw [List.take_length] at HM HOK
        clear hok hT1 hs1 hk1 hnG hBr hXr
        go_wp2_with fail
        go_ret
        rw [HQ.out, HOK.out]
        exact ⟨ret1_b rfl, RMoved.from_ HB0.out HM.out⟩
def Rs (w : World) (M : Nat → Prop) (gx h : Nat) (G : Nat → Prop) (L : List ByteArray) (O : List Int) : Prop :=
  ∃ v, RTab w G h L ∧ Blk w gx 89 #[.pointer (some ⟨h, 0, none⟩), v] ∧ w.ownsRow 0 49 1 v O.length (u64s O) ∧ M gx ∧ (∀ r, v.ownBlock = some r → M r) ∧ ∀ k, M k → k < w.heap.size ∧ ¬ G k
/-- Behind a step. -/
def RMv (w : World) (M : Nat → Prop) (gx h : Nat) (G : Nat → Prop) (L : List ByteArray) (O : List Int) (w' : World) : Prop := ∃ M', Rs w' M' gx h G L O ∧ (∀ k, M' k → M k ∨ w.heap.size ≤ k) ∧ Keep M w w'
section
variable {w w1 w2 w' : World} {gx h : Nat} {M M1 G : Nat → Prop} {L : List ByteArray} {O O' : List Int}
theorem Rs.lt (r : Rs w M gx h G L O) : gx < w.heap.size ∧ M gx := by
  obtain ⟨v, _, hB, _, h4, _, h5⟩ := r
  exact ⟨hB.lt, h4⟩
theorem RMv.stay (r : Rs w M gx h G L O) : RMv w M gx h G L O w := ⟨M, r, fun k hk => .inl hk, Keep.refl _ _⟩
theorem Rs.below (r : Rs w M gx h G L O) (hb : Below w.heap.size w w') : Rs w' M gx h G L O := by
  obtain ⟨v, hT, hB, hR, h4, h5, h6⟩ := r
  exact ⟨v, hT.keep (G := fun _ => False) (Keep.new hb) (fun _ _ h => h), hB.below hb hB.lt, ownsRow_below hR hb (fun r hr => (hR.lt r hr).2), h4, h5, fun k hk => ⟨Nat.lt_of_lt_of_le (h6 k hk).1 hb.size, (h6 k hk).2⟩⟩
theorem Rs.cells (r : Rs w M gx h G L O) : ∃ A c, w.cell? ⟨gx, 0, none⟩ = some (.pointer (some ⟨h, 0, none⟩)) ∧ w.cell? ⟨gx, 1, none⟩ = some (.slice A O.length c) ∧ w.frozen? ⟨gx, 1, none⟩ = false ∧ w.ownsRow 0 49 1 (.slice A O.length c) O.length (u64s O) ∧ O.length ≤ c ∧ c ≤ maxLen := by
  obtain ⟨v, hT, hB, hR, h4, h5⟩ := r
  obtain ⟨A, c, rfl, k1, k2⟩ := ownsRow_form hR
  exact ⟨A, c, by rw [hB.cell]; rfl, by rw [hB.cell]; rfl, hB.frozen 1, hR, k1, k2⟩
theorem RMv.from_ (hb : Below w.heap.size w w1) (m : RMv w1 M gx h G L O w') : RMv w M gx h G L O w' := by
  obtain ⟨M', r, hs, hk⟩ := m
  exact ⟨M', r, fun k hk => (hs k hk).imp id (fun h => Nat.le_trans hb.size h), (Keep.new (F := M) hb).trans hk (fun _ _ h => h)⟩
theorem RMv.then_ (hs : ∀ k, M1 k → M k ∨ w.heap.size ≤ k) (hk : Keep M w w1) (m : RMv w1 M1 gx h G L O w') : RMv w M gx h G L O w' := by
  obtain ⟨M2, r, hs2, hk2⟩ := m
  refine ⟨M2, r, fun k h => ?_, hk.trans hk2 (fun i hi hm => ?_)⟩
  · rcases hs2 k h with h | h
    · exact hs k h
    · exact .inr (Nat.le_trans hk.size h)
  · rcases hs i hm with h | h
    · exact h
    · omega
theorem RMv.at_ {b i : Nat} {x : Value} (m : RMv w M gx h G L O w') (hb : ¬ M b) (hc : w.cell? ⟨b, i, none⟩ = some x) : w'.cell? ⟨b, i, none⟩ = some x := by
  obtain ⟨_, _, _, hk⟩ := m
  exact (hk.cell (p := ⟨b, i, none⟩) (World.block_lt_of_cell? _ _ hc) hb).trans hc
/-- The row grows, and the layer holds it. -/
theorem Rs.push (r : Rs w M gx h G L O) {A A' : Option Addr} {c c' n n' : Nat} (hn' : O.length = n') (hc : w.cell? ⟨gx, 1, none⟩ = some (.slice A n' c)) (hb : Below w.heap.size w w1) (hg : w1.grownBy w2 (Value.slice A n' c).ownBlock) (hR' : w2.ownsRow 0 49 1 (.slice A' n c') n (u64s O'))
    (hat : (Value.slice A' n c').ownBlock = (Value.slice A n' c).ownBlock ∨ (Value.slice A' n c').ownBlock = some w1.heap.size) :
    RMv w M gx h G L O' (w2.setCell ⟨gx, 1, none⟩ (.slice A' n c')) ∧ w2.cell? ⟨gx, 1, none⟩ = some (.slice A n' c) ∧ w2.frozen? ⟨gx, 1, none⟩ = false ∧ (w2.setCell ⟨gx, 1, none⟩ (.slice A' n c')).cell? ⟨gx, 1, none⟩ = some (.slice A' n c') ∧ (∀ b i x, ¬ M b → w.cell? ⟨b, i, none⟩ = some x → w2.cell? ⟨b, i, none⟩ = some x) := by
  subst hn'
  have hn : n = O'.length := by have := hR'.1; simp [u64s] at this; omega
  subst hn
  obtain ⟨v, hT, hB, hR, h4, h5, h6⟩ := r
  have hv : v = .slice A O.length c := by
    have := hB.cell 1
    rw [hc] at this
    simpa using this.symm
  subst hv
  have hlt : ∀ k, G k → k < w.heap.size := RTab.lt_ hT
  have hB1 := hB.below hb hB.lt
  have hR1 := ownsRow_below hR hb (fun r hr => (hR.lt r hr).2)
  have hT1 := hT.keep (G := fun _ => False) (Keep.new hb) (fun _ _ h => h)
  have hne1 : (Value.slice A O.length c).ownBlock ≠ some gx := own_blk_ne hR hB (by decide)
  have hB2 := hB1.grown hg (fun e => hne1 e.symm)
  have hne : (Value.slice A' O'.length c').ownBlock ≠ some gx := own_blk_ne hR' hB2 (by decide)
  have hK2 : Keep M w w2 := (Keep.new (F := M) hb).grown hg (fun k hk => .inl (h5 k hk))
  have hT2 : RTab w2 G h L := hT1.grown hg (fun r hr hG => (h6 r (h5 r hr)).2 hG)
  have hz := hg.size
  have hzb := hb.size
  refine ⟨⟨fun k => (M k ∨ w.heap.size ≤ k) ∧ k < (w2.setCell ⟨gx, 1, none⟩ (.slice A' O'.length c')).heap.size, ⟨_, hT2.keep (G := fun b => b = gx) ((Keep.refl (fun b => b = gx) w2).setCell (p := ⟨gx, 1, none⟩) (.inl rfl) _) (fun r hr e => (h6 gx h4).2 (e ▸ hr)), by simpa using hB2.set_ 1 (.slice A' O'.length c'), ownsRow_setCell_other hR' (a := ⟨gx, 1, none⟩) hne _, ?_, ?_, fun k hk => ⟨hk.2, fun hg => ?_⟩⟩, fun k hk => hk.1, hK2.setCell (p := ⟨gx, 1, none⟩) (.inl h4) _⟩, by rw [hB2.cell]; rfl, hB2.frozen 1, ?_, fun b i x hb' hx => (hK2.cell (p := ⟨b, i, none⟩) (World.block_lt_of_cell? _ _ hx) hb').trans hx⟩
  · refine ⟨.inl h4, ?_⟩
    have := (h6 _ h4).1
    simp [World.setCell]; omega
  · intro r hr
    have hr2 := (hR'.lt r hr).2
    rcases hat with e | e
    · rw [e] at hr
      exact ⟨.inl (h5 r hr), by simpa [World.setCell] using hr2⟩
    · rw [e] at hr
      injection hr with hr
      subst hr
      exact ⟨.inr hzb, by simpa [World.setCell] using hr2⟩
  · rcases hk.1 with h | h
    · exact (h6 k h).2 hg
    · have := hlt k hg; omega
  · exact World.cell?_setCell_same _ _ _ (by rw [hB2.cell]; rfl)
/-- A word is put into the row. -/
theorem Rs.store (r : Rs w M gx h G L O) {i : Nat} (hi : i < O.length) : ∃ q c, w.cell? ⟨gx, 1, none⟩ = some (.slice (some ⟨q, 0, none⟩) O.length c) ∧ O.length ≤ c ∧ c ≤ maxLen ∧ (∃ x, w.cell? ⟨q, i, none⟩ = some x) ∧ w.frozen? ⟨q, i, none⟩ = false ∧
    ∀ y, RMv w M gx h G L (O.set i y) (w.setCell ⟨q, i, none⟩ (.int .u64 y)) := by
  obtain ⟨v, hT, hB, hR, h4, h5, h6⟩ := r
  obtain ⟨q, c, rfl, k1, k2, k3, k4, k5⟩ := ownsRow_at hR hi
  have hne : q ≠ gx := fun e => own_blk_ne hR hB (by decide) (by rw [e]; rfl)
  refine ⟨q, c, by rw [hB.cell]; rfl, k1, k2, ⟨_, k5 i (.int .u64 O[i]) (by simp [u64s, hi])⟩, hR.frozenAt i, fun y => ?_⟩
  obtain ⟨q1, q2⟩ := hR.stored i (.int .u64 y)
  have hl : (O.set i y).length = O.length := List.length_set
  have hq := h5 q rfl
  refine ⟨M, ⟨.slice (some ⟨q, 0, none⟩) O.length c, hT.grown q2 (fun k hk hG => ?_), hB.grown q2 (fun e => hne (by injection e with e; exact e.symm)), ?_, h4, h5, fun k hk => ⟨Nat.lt_of_lt_of_le (h6 k hk).1 q2.size, (h6 k hk).2⟩⟩, fun k hk => .inl hk, (Keep.refl M w).setCell (.inl hq) _⟩
  · injection hk with hk
    subst hk
    exact (h6 _ hq).2 hG
  · rw [hl]
    unfold u64s at q1 ⊢
    rwa [List.map_set]
end
/-- What the document's lay does. -/
def RLayC (t : Tm) : Prop := ∀ (vt : Value) (w : World) (M R G : Nat → Prop) (gx h : Nat) (L : List ByteArray) (O : List Int), Rs w M gx h G L O → TAt w R t vt → (∀ b, R b → b < w.heap.size ∧ ¬ M b) → sndL (subs t) = true → (∀ s ∈ atoms t, s ∈ L) → (O.length : Int) + wds t ≤ 65537 →
  Calls Try.prog 50 #[.pointer (some ⟨gx, 0, none⟩), vt] w fun e w' => e = .returned (.int .u64 (ownW (ix L) t O.length)) ∧ RMv w M gx h G L (O ++ lay (ix L) t O.length) w'
theorem step_append_run2 {P : Program} {ops : Array Oper} {o : Oper} {a : Act} {w w' : World} {K : Act → World → Prop} {Q : Exit → Act → World → Prop} {E : Prop} (s x : Operand) (t xt : TypeId) (v u v' : Value) (hrun : (Builtin.append_ #[t, xt] o.type #[v, u]).run P w = .ok v' w')
    (hgd : o.guard = none) (ho : o.op = .call { callee := .builtin .append, args := #[s, x], argTypes := #[t, xt] })
    (hs : a.eval s = v) (hx : a.eval x = u) (h : K (a.put o.dst v') w') :
    if Region.wanted o (yielded ops a.tmps) = true then Oper.wp P o a w K Q else E := by
  have hw : Region.wanted o (yielded ops a.tmps) = true := by simp [Region.wanted, hgd]
  rw [if_pos hw]
  unfold Oper.wp execOp
  simp only [ho, resolve, invoke, builtin, Sem.run_bind, Sem.run_pure, Result.andThen_ok, List.map_toArray, List.map_cons, List.map_nil, hs, hx, hrun]
  exact h
theorem quietL {P : Program} {f : Nat} {args : Array Value} {w : World} {n : Nat} {v : Value} (h : Calls P f args (w.drewN n) fun e w' => e = .returned v ∧ w.drewN n = w') :
    Calls P f args (w.drewN n) fun e w'' => e = .returned v ∧ ∃ m, w'' = w.drewN m := h.mono fun _ _ ⟨he, hm⟩ => ⟨he, n, hm.symm⟩
end Go.Proofs.Ytfcialleekfjmaa.Fl
