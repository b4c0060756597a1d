/- Flatten, by a contract. -/
import Derived.Test.YtnedjmjcbmoknaaFlLayB
import Derived.Test.YtnedjmjcbmoknaaCheck
import Derived.Test.YtnedjmjcbmoknaaWords
import Derived.Laws.MakeOwn
namespace Go.Proofs.Ytnedjmjcbmoknaa.Fl
open Go.RowKit K At Wd
set_option linter.unusedVariables false
set_option linter.unusedSimpArgs false

theorem Fs.row_ne {w : World} {M : Nat → Prop} {B g gO r n c : Nat} {L : List ByteArray} {O : List Int} (h : Fs w M B g gO L O) (hc : w.cell? ⟨gO, 0, none⟩ = some (.slice (some ⟨r, 0, none⟩) n c)) : r ≠ gO := by
  obtain ⟨F, v, h0, hT, hB, hR, h1, h2, h3, h4, h5⟩ := h
  have hv : v = .slice (some ⟨r, 0, none⟩) n c := by
    have := hB.cell 0
    rw [hc] at this
    simpa using this.symm
  subst hv
  exact fun e => own_blk_ne hR hB (by decide) (by rw [e]; rfl)
theorem ret2_vi {v v' : Value} {a b : Int} (h : v = v') (h' : a = b) : Ending.returned (.tuple #[v, .int .i64 a]) = .returned (.tuple #[v', .int .i64 b]) := by rw [h, h']
theorem bytes_nil {s : ByteArray} (h : s.size = 0) : s = ⟨#[]⟩ := by
  obtain ⟨⟨d⟩⟩ := s
  have : d.length = 0 := h
  rw [List.eq_nil_of_length_eq_zero this]
theorem lay_any : ∀ t : Tm, LayC t := by
  refine Tm.ind fun t ih v w M G B g gO gA gL L O hF hT hG hv hs hO => ?_
  obtain ⟨A, c, rfl, ok, hts⟩ := hT.inv
  have hsb : soundB t = true := by rw [sndL_subs, Bool.and_eq_true] at hs; exact hs.1
  have hsl : ∀ u ∈ t.l, sndL (subs u) = true := fun u hu => by rw [sndL_subs, Bool.and_eq_true] at hs; exact sndL_mem hs.2 hu
  have hO2 : O.length ≤ 65537 := by have := (wds_range t).1; omega
  have hw : (Lit.int .i64 t.k).wf = true ∧ (Lit.int .i64 t.n).wf = true := ⟨ok.wk, ok.wn⟩
  obtain ⟨k, n, s, l⟩ := t
  simp only [Tm.l_mk, Tm.k_mk, Tm.n_mk] at ih hsl hts hw
  unfold tv
  simp only [Tm.l_mk, Tm.k_mk, Tm.n_mk, Tm.s_mk]
  by_cases h2 : k = 2
  · subst h2
    obtain ⟨rfl, h64, hl⟩ := (soundB_2 n s l).1 hsb
    obtain rfl : l = [] := List.eq_nil_of_length_eq_zero hl
    exact lay_sym s A c w M B g gO gA gL L O hF hv hO2 hsb
  by_cases h7 : k = 7
  · subst h7
    obtain ⟨rfl, h0, hl⟩ := (soundB_7 n s l).1 hsb
    obtain rfl := bytes_nil h0
    exact lay_7 l A c ih w M G B g gO gA gL L O hF hts hG hv hsb hsl hO
  by_cases h5 : k = 5
  · subst h5
    obtain ⟨_, _, h0, hl⟩ := (soundB_5 n s l).1 hsb
    obtain rfl := bytes_nil h0
    exact lay_5 n l A c ih w M G B g gO gA gL L O hF hts hG hv hsb hsl hO
  by_cases h9 : k = 9
  · subst h9
    obtain ⟨rfl, h0, hl⟩ := (soundB_9 n s l).1 hsb
    obtain rfl := bytes_nil h0
    exact lay_9 l A c ih w M G B g gO gA gL L O hF hts hG hv hsb hsl hO
  · exact lay_leaf k n s l A c hw w M B g gO gA gL L O hF hv hO2 hsb h2 (by unfold boxK; omega)
/-- What Flatten leaves. -/
def FlatPost (w : World) (F : Nat → Prop) (g : Nat) (L : List ByteArray) (t : Tm) (e : Ending) (w' : World) : Prop :=
  ∃ F' sv, e = .returned (.tuple #[sv, .int .i64 (flE L t)]) ∧ Tab w' F' g (flL L t) ∧ (∀ k, F' k → F k ∨ w.heap.size ≤ k) ∧ Keep F w w' ∧ w'.ownsRow w.heap.size 31 1 sv (flW L t).length (u64s (flW L t)) ∧ ∀ r, sv.ownBlock = some r → ¬ F' r
theorem flat_make (w : World) (m : Nat) (h0 : 1 ≤ m) (h1 : m ≤ 65536) : ∃ w', (Instr.makeSlice 39 (.int .i64 1) (.int .i64 (m : Int))).run Try.prog w = .ok (.slice (some ⟨w.heap.size, 0, none⟩) 1 m) w' ∧ w'.ownsRow 0 31 1 (.slice (some ⟨w.heap.size, 0, none⟩) 1 m) 1 (u64s [0]) ∧ Below w.heap.size w w' ∧ w'.heap.size = w.heap.size + 1 := by
  obtain ⟨i0, hi, hz0, hz1, hz2⟩ := info_parts infoW
  have hr := run_make (P := Try.prog) w 39 31 i0 _ Try.underlying39 hi hz0 .i64 .i64 1 m (by omega) (by omega) (by rw [hz2]; omega) (by omega)
  refine ⟨_, hr, ⟨by simp [u64s], .inr ⟨w.heap.size, m, _, rfl, Nat.zero_le _, heap_alloc_new w _, h0, by unfold maxLen; omega, by rw [size_madeCells, hz1]; simp, ?_⟩⟩, ballocs (Below.refl _ _) _, by simp⟩
  rw [hz1, Nat.mul_one, show (Value.int .u64 0).cells = #[.int .u64 0] from rfl, toList_madeCells_one]
  obtain ⟨q, rfl⟩ : ∃ q, m = q + 1 := ⟨m - 1, by omega⟩
  simp [u64s, List.replicate_succ]
theorem Tab.lt_ {w : World} {F : Nat → Prop} {g : Nat} {L : List ByteArray} (h : Tab w F g L) : ∀ k, F k → k < w.heap.size := by
  obtain ⟨bm, v, D, fl, _⟩ := h
  exact fl
/-- The closure's state at its first call. -/
theorem flat_start {w w2 w3 : World} {F : Nat → Prop} {g gA m : Nat} {L : List ByteArray} (hT : Tab w F g L) (hb2 : Below w.heap.size w w2) (hb3 : Below w2.heap.size w2 w3) (hz : w3.heap.size = w2.heap.size + 1) (hR : w3.ownsRow 0 31 1 (.slice (some ⟨w2.heap.size, 0, none⟩) 1 m) 1 (u64s [0]))
    (hA : w2.cell? ⟨gA, 0, none⟩ = some (.pointer (some ⟨g, 0, none⟩))) (hA2 : w.heap.size ≤ gA) :
    Fs ((w3.alloc (.cells #[.slice (some ⟨w2.heap.size, 0, none⟩) 1 m] 39)).alloc (.cells #[.func (.func 52) #[] #[.pointer (some ⟨w3.heap.size, 0, none⟩), .pointer (some ⟨gA, 0, none⟩), .pointer (some ⟨w3.heap.size + 1, 0, none⟩)]] 38)) (fun k => F k ∨ k = w2.heap.size ∨ k = w3.heap.size) w.heap.size g w3.heap.size L [0] ∧
    FVars ((w3.alloc (.cells #[.slice (some ⟨w2.heap.size, 0, none⟩) 1 m] 39)).alloc (.cells #[.func (.func 52) #[] #[.pointer (some ⟨w3.heap.size, 0, none⟩), .pointer (some ⟨gA, 0, none⟩), .pointer (some ⟨w3.heap.size + 1, 0, none⟩)]] 38)) (fun k => F k ∨ k = w2.heap.size ∨ k = w3.heap.size) w.heap.size g w3.heap.size gA (w3.heap.size + 1) := by
  have hz2 := hb2.size
  have hlt := Tab.lt_ hT
  have hAl : gA < w2.heap.size := World.block_lt_of_cell? w2 ⟨gA, 0, none⟩ hA
  have hb23 : Below w.heap.size w w3 := fbelow hb2 hb3
  have hb4 := ballocs (ballocs hb23 (.cells #[.slice (some ⟨w2.heap.size, 0, none⟩) 1 m] 39)) (.cells #[.func (.func 52) #[] #[.pointer (some ⟨w3.heap.size, 0, none⟩), .pointer (some ⟨gA, 0, none⟩), .pointer (some ⟨w3.heap.size + 1, 0, none⟩)]] 38)
  refine ⟨⟨F, _, ⟨hb4.size, ?_⟩, hT.keep (G := fun _ => False) (Keep.new hb4) (fun _ _ h => h), (Blk.new w3 _ _).alloc _, (hR.alloc _).alloc _, fun k h => .inl h, .inr (.inr rfl), ?_, ?_, ?_⟩, ?_, ?_, ?_, ?_⟩
  · intro r hr
    have hr : w2.heap.size = r := by injection hr
    omega
  · intro h; have := hlt _ h; omega
  · intro r hr
    have hr : w2.heap.size = r := by injection hr
    subst hr
    exact ⟨.inr (.inl rfl), fun h => by have := hlt _ h; omega⟩
  · intro k hk
    simp only [World.size_alloc]
    rcases hk with h | h | h
    · have := hlt _ h; omega
    · omega
    · omega
  · rw [World.cell?_alloc_lt _ _ _ (by simp only [World.size_alloc]; omega), World.cell?_alloc_lt _ _ _ (by simp only; omega), hb3.cell (p := ⟨gA, 0, none⟩) hAl]
    exact hA
  · have h := Blk.new (w3.alloc (.cells #[.slice (some ⟨w2.heap.size, 0, none⟩) 1 m] 39)) 38 #[.func (.func 52) #[] #[.pointer (some ⟨w3.heap.size, 0, none⟩), .pointer (some ⟨gA, 0, none⟩), .pointer (some ⟨w3.heap.size + 1, 0, none⟩)]]
    simp only [World.size_alloc] at h
    rw [h.cell]; rfl
  · rintro (h | h | h)
    · have := hlt _ h; omega
    · omega
    · omega
  · rintro (h | h | h)
    · have := hlt _ h; omega
    · omega
    · omega
/-- What lies there at the end. -/
theorem flat_end {w w4 w5 : World} {F M : Nat → Prop} {g gO : Nat} {L : List ByteArray} {O : List Int} {sv : Value} (hb : Below w.heap.size w w4) (hM : ∀ k, M k → F k ∨ w.heap.size ≤ k) (h : FMoved w4 M w.heap.size g gO L O w5) (hc : w5.cell? ⟨gO, 0, none⟩ = some sv) :
    ∃ F', Tab w5 F' g L ∧ (∀ k, F' k → F k ∨ w.heap.size ≤ k) ∧ Keep F w w5 ∧ w5.ownsRow w.heap.size 31 1 sv O.length (u64s O) ∧ ∀ r, sv.ownBlock = some r → ¬ F' r := by
  obtain ⟨M', ⟨F', v, h0, hT, hB, hR, h1, h2, h3, h4, h5⟩, hs, hk⟩ := h
  have hv : v = sv := by
    have := hB.cell 0
    rw [hc] at this
    simpa using this.symm
  subst hv
  refine ⟨F', hT, fun k hf => ?_, ?_, ownsRow_base hR h0.2, fun r hr => (h4 r hr).2⟩
  · rcases hs k (h1 k hf) with h | h
    · exact hM k h
    · exact .inr (Nat.le_trans hb.size h)
  · exact (Keep.new (F := F) hb).trans hk (fun i hi hm => by
      rcases hM i hm with h | h
      · exact h
      · omega)
set_option maxRecDepth 100000 in
set_option maxHeartbeats 8000000 in
theorem flatten_any (g : Nat) (L : List ByteArray) (t : Tm) (v : Value) (w : World) (F G : Nat → Prop) (hT : Tab w F g L) (ht : TAt w G t v) (hG : ∀ b, G b → b < w.heap.size ∧ ¬ F b) (hn : nodes t ≤ 1048576) :
    Calls Try.prog 33 #[.pointer (some ⟨g, 0, none⟩), v] w (FlatPost w F g L t) := by
  obtain ⟨A, c, rfl, ok, hts⟩ := ht.inv
  have hlt := Tab.lt_ hT
  obtain ⟨w0, hw0⟩ : ∃ x, (w.alloc (.cells #[.pointer (some ⟨g, 0, none⟩)] 53)).alloc (.cells #[.int .i64 t.k, .int .i64 t.n, .string t.s, .slice A t.l.length c] 28) = x := ⟨_, rfl⟩
  have hb0 : Below w.heap.size w w0 := by rw [← hw0]; exact ballocs (ballocs (Below.refl _ _) _) _
  have hz0 : w0.heap.size = w.heap.size + 1 + 1 := by rw [← hw0]; simp
  have hBA : Blk w0 w.heap.size 53 #[.pointer (some ⟨g, 0, none⟩)] := by rw [← hw0]; exact (Blk.new w _ _).alloc _
  have hBT : Blk w0 (w.heap.size + 1) 28 #[.int .i64 t.k, .int .i64 t.n, .string t.s, .slice A t.l.length c] := by
    have h := Blk.new (w.alloc (.cells #[.pointer (some ⟨g, 0, none⟩)] 53)) 28 #[.int .i64 t.k, .int .i64 t.n, .string t.s, .slice A t.l.length c]
    simp only [World.size_alloc] at h
    rw [← hw0]; exact h
  have HNO := Lib.hid (none_tab g L w0 F (hT.keep (G := fun _ => False) (Keep.new hb0) (fun _ _ h => h)))
  have HTA := Lib.hid (show TA w0 t (tv t A c) from (ht.under hb0 (fun b hb => (hG b hb).1)).mono (fun b hb => by have := (hG b hb).1; omega))
  have HCK := Lib.hid (fun (h : TA w0 t (tv t A c)) => check_any t (tv t A c) w0 h hn)
  have hmf : ∀ (fn : Fn) (first cap : Array Value) (w : World), (Instr.makeFunc fn first cap).run Try.prog w = .ok (.func fn first cap) w := fun _ _ _ _ => rfl
  have HT := Lib.hid hT
  have HG := Lib.hid hG
  have HTT := Lib.hid ht
  have HB0 := Lib.hid hb0
  have HZ0 := Lib.hid hz0
  have HN := Lib.hid hn
  obtain ⟨p0, p1, p2, p3, _, _, _, _⟩ := hBT.four
  have a0 : w0.cell? ⟨w.heap.size, 0, none⟩ = some (.pointer (some ⟨g, 0, none⟩)) := by rw [hBA.cell]; rfl
  unfold tv at HTA HCK HTT ⊢
  clear hT ht hts hlt hb0 hz0 hG ok hn hBT hBA
  go_enter Try.func33, Try.ntmps33
  go_wp2_with fail
  clear hw0
  refine HNO.out.mono ?_
  rintro e w1 ⟨rfl, rfl⟩
  go_wp2_with fail
  refine (HCK.out HTA.out).mono ?_
  rintro e w1 ⟨rfl, hb1⟩
  have HB1 := Lib.hid hb1
  clear hb1
  by_cases hc0 : chk t = 0
  · have HC := Lib.hid hc0
    have b1 : (chk t != 0) = false := by rw [hc0]; rfl
    clear hc0
    have hsw : sndL (subs t) = true ∧ wds t ≤ 65536 := by
      have h := HC.out
      rw [chk_eq] at h
      split at h
      · rename_i h1
        split at h
        · cases h
        · exact ⟨h1, by omega⟩
      · cases h
    have hw1 := (wds_range t).1
    obtain ⟨m, hm⟩ : ∃ m : Nat, (m : Int) = wds t := ⟨(wds t).toNat, by omega⟩
    have HSW := Lib.hid hsw
    have HMW := Lib.hid hm
    have hm1 : 1 ≤ m := by omega
    have hm2 : m ≤ 65536 := by omega
    have q : ∀ i (x : Value), w0.cell? ⟨w.heap.size + 1, i, none⟩ = some x → w1.cell? ⟨w.heap.size + 1, i, none⟩ = some x := fun i x h => (HB1.out.cell (p := ⟨w.heap.size + 1, i, none⟩) (World.block_lt_of_cell? _ _ h)).trans h
    have q0 := q 0 _ p0; have q1 := q 1 _ p1; have q2 := q 2 _ p2; have q3 := q 3 _ p3
    have HW := Lib.hid (show Calls Try.prog 51 #[.agg #[.int .i64 t.k, .int .i64 t.n, .string t.s, .slice A t.l.length c]] w1 (fun e w' => e = .returned (.int .i64 (m : Int)) ∧ Below w1.heap.size w1 w') from by
      rw [hm]; exact words_any t _ w1 (TA.later HTA.out HB1.out) HN.out)
    clear hsw hw1 hm q
    go_wp2_with fail
    refine HW.out.mono ?_
    rintro e w2 ⟨rfl, hb2⟩
    obtain ⟨w3, hmk, hR3, hb3, hz3⟩ := flat_make w2 m hm1 hm2
    have q : ∀ i (x : Value), w1.cell? ⟨w.heap.size + 1, i, none⟩ = some x → w3.cell? ⟨w.heap.size + 1, i, none⟩ = some x := fun i x h => ((fbelow hb2 hb3).cell (p := ⟨w.heap.size + 1, i, none⟩) (World.block_lt_of_cell? _ _ h)).trans h
    have r0 := q 0 _ q0; have r1 := q 1 _ q1; have r2 := q 2 _ q2; have r3 := q 3 _ q3
    have hgT : w.heap.size + 1 < w3.heap.size := World.block_lt_of_cell? w3 ⟨w.heap.size + 1, 0, none⟩ r0
    have hgT2 : w.heap.size < w3.heap.size := by omega
    have hb02 : Below w.heap.size w w2 := fbelow HB0.out (fbelow HB1.out hb2)
    have a2 : w2.cell? ⟨w.heap.size, 0, none⟩ = some (.pointer (some ⟨g, 0, none⟩)) := ((fbelow HB1.out hb2).cell (p := ⟨w.heap.size, 0, none⟩) (World.block_lt_of_cell? w0 ⟨w.heap.size, 0, none⟩ a0)).trans a0
    have HST := Lib.hid (flat_start HT.out hb02 hb3 hz3 hR3 a2 (Nat.le_refl _))
    have HB3 := Lib.hid (fbelow hb02 hb3)
    have HZ3 := Lib.hid hz3
    have HZ2 := Lib.hid hb02.size
    clear hb2 hb3 hz3 hR3 hb02 a2 a0 q q0 q1 q2 q3 p0 p1 p2 p3
    go_wp2_with fail
    generalize hw4 : ((w3.alloc (.cells #[.slice (some ⟨w2.heap.size, 0, none⟩) 1 m] 39)).alloc (.cells #[.func (.func 52) #[] #[.pointer (some ⟨w3.heap.size, 0, none⟩), .pointer (some ⟨w.heap.size, 0, none⟩), .pointer (some ⟨w3.heap.size + 1, 0, none⟩)]] 38)) = w4 at HST ⊢
    have hb4 : Below w.heap.size w w4 := by rw [← hw4]; exact ballocs (ballocs HB3.out _) _
    have HB4 := Lib.hid hb4
    clear hw4 hmk r0 r1 r2 r3 hmf hb4
    refine (lay_any t _ w4 (fun k => F k ∨ k = w2.heap.size ∨ k = w3.heap.size) G w.heap.size g w3.heap.size w.heap.size (w3.heap.size + 1) L [0] HST.out.1 (HTT.out.under HB4.out (fun b hb => (HG.out b hb).1)) (fun b hb => ⟨by have := (HG.out b hb).1; have := HB4.out.size; omega, fun h => by
      have h1 := HG.out b hb
      have h2 := HZ2.out
      rcases h with h | h | h
      · exact h1.2 h
      · omega
      · omega⟩) HST.out.2 HSW.out.1 (by have := HSW.out.2; simp; omega)).mono ?_
    rintro e w5 (⟨h1, rfl, hm⟩ | ⟨h1, y, O2, rfl, hy, hm⟩)
    · have HM5 := Lib.hid hm
      have H1 := Lib.hid h1
      obtain ⟨M5, hF5, hs5, hk5⟩ := hm
      obtain ⟨r, cr, hcr, hcr1, hcr2, ⟨x9, hx9⟩, hfz9, hst⟩ := hF5.store (i := 0) (by simp)
      have hne := hF5.row_ne hcr
      obtain ⟨N, hN⟩ : ∃ N, ([0] ++ lay (ix (nums t L).2) t [(0 : Int)].length).length = N := ⟨_, rfl⟩
      have hN0 : 0 < N := by rw [← hN]; simp
      rw [hN] at hcr hcr1
      have HST2 := Lib.hid hst
      have HS5 := Lib.hid hs5; have HK5 := Lib.hid hk5
      clear hF5 hst hN h1 hs5 hk5
      go_wp2_with fail
      go_ret2
      have hE : flE L t = 0 := by unfold flE; rw [if_pos HC.out, if_pos H1.out]
      obtain ⟨F', e1, e2, e3, e4, e5⟩ := flat_end (sv := .slice (some ⟨r, 0, none⟩) N cr) HB4.out (M := fun k => F k ∨ k = w2.heap.size ∨ k = w3.heap.size) (F := F) (fun k h => by
        have h2 := HZ2.out
        rcases h with h | h | h
        · exact .inl h
        · exact .inr (by omega)
        · exact .inr (by omega)) ((HST2.out (ownW (ix (nums t L).2) t [(0 : Int)].length)).then_ HS5.out HK5.out) ((far_cell _ _ _ _ hne).trans hcr)
      refine ⟨F', .slice (some ⟨r, 0, none⟩) N cr, ret2_vi rfl hE.symm, ?_, e2, e3, ?_, e5⟩
      · rw [show flL L t = (nums t L).2 from by unfold flL; rw [if_pos HC.out]]; exact e1
      · rw [show flW L t = Fl.flat (ix (nums t L).2) t from by unfold flW; rw [if_pos hE]]; exact e4
    · have HM5 := Lib.hid hm
      have H1 := Lib.hid h1
      clear h1
      go_wp2_with fail
      go_ret2
      have hE : flE L t = 8 := by unfold flE; rw [if_pos HC.out, if_neg (by rw [H1.out]; simp)]
      obtain ⟨A9, c9, hc9, _⟩ := (show ∃ A c, w5.cell? ⟨w3.heap.size, 0, none⟩ = some (.slice A O2.length c) ∧ True from by
        obtain ⟨M5, hF5, hs5, hk5⟩ := HM5.out
        obtain ⟨A, c, h, _⟩ := hF5.cell
        exact ⟨A, c, h, trivial⟩)
      obtain ⟨F', e1, e2, e3, e4, e5⟩ := flat_end HB4.out (M := fun k => F k ∨ k = w2.heap.size ∨ k = w3.heap.size) (F := F) (fun k h => by
        have h2 := HZ2.out
        rcases h with h | h | h
        · exact .inl h
        · exact .inr (by omega)
        · exact .inr (by omega)) HM5.out hc9
      refine ⟨F', .slice none 0 0, ret2_vi rfl hE.symm, ?_, e2, e3, ?_, fun r h => by cases h⟩
      · rw [show flL L t = (nums t L).2 from by unfold flL; rw [if_pos HC.out]]; exact e1
      · rw [show flW L t = [] from by unfold flW; rw [if_neg (by rw [hE]; decide)]]
        exact World.ownsRow_nil _ _ _ _
  · have HC := Lib.hid hc0
    have b1 : (chk t == 0) = false := by simpa using hc0
    clear hc0
    go_wp2_with fail
    go_ret2
    refine ⟨F, .slice none 0 0, ?_, ?_, fun k h => .inl h, Keep.new (fbelow HB0.out HB1.out), ?_, fun r h => by cases h⟩
    · exact ret2_vi rfl (by unfold flE; rw [if_neg HC.out])
    · rw [show flL L t = L from by unfold flL; rw [if_neg HC.out]]
      exact HT.out.keep (G := fun _ => False) (Keep.new (fbelow HB0.out HB1.out)) (fun _ _ h => h)
    · rw [show flW L t = [] from by unfold flW; rw [if_neg]; unfold flE; rw [if_neg HC.out]; exact HC.out]
      exact World.ownsRow_nil _ _ _ _
end Go.Proofs.Ytnedjmjcbmoknaa.Fl
