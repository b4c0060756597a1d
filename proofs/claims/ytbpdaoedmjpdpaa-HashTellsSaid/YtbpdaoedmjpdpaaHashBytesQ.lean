/- hash.Bytes once more: of its row all cells are bytes, behind its end too. -/
import Derived.Test.YtbpdaoedmjpdpaaHashBytes
import Derived.Test.YtbpdaoedmjpdpaaOwnQ
namespace Go.Proofs.Ytbpdaoedmjpdpaa.Hs
open Go.RowKit Go.Shelf K
set_option linter.unusedVariables false
set_option linter.unusedSimpArgs false
attribute [local go_sem] Oper.semAt_some

def U8V (v : Value) : Prop := ∃ x : B8, v = .int .u8 x.1
def OutQ (b : Nat) (w : World) (pre : List B8) (W : World) : Prop := OutI b w pre W ∧ ∀ v, W.cell? ⟨b, 0, none⟩ = some v → RowQ U8V W v
theorem OutQ_own {b : Nat} {w : World} {B : Nat} (hB : w.heap.size ≤ B) : OwnFrom B (OutQ b w) := by
  intro pre X Y row ⟨h1, h2⟩ hg hr
  refine ⟨OutI_own hB pre X Y row h1 hg hr, fun v hv => ?_⟩
  obtain ⟨⟨v9, hv9, hr9, _⟩, _, hbl⟩ := h1
  have hb : some b ≠ row := fun e => by
    obtain ⟨_, o, ho, hc⟩ := hr b e.symm
    rw [show X.heap[b]? = some _ from hv9] at ho; cases ho; cases hc
  have hcell : Y.cell? ⟨b, 0, none⟩ = X.cell? ⟨b, 0, none⟩ := World.cell?_of_block (hg.block b hbl hb)
  rw [hcell, hv9.cell] at hv
  injection hv with hv
  subst hv
  refine (h2 v9 hv9.cell).kept fun g hgg => hg.block g (hr9.lt g hgg).2 fun e => ?_
  obtain ⟨_, o, ho, hc⟩ := hr g e.symm
  rcases hr9.2 with ⟨h, _⟩ | ⟨g', cap, cur, h, _, hh, _⟩
  · rw [h] at hgg; cases hgg
  · rw [h] at hgg
    have : g' = g := by injection hgg
    subst this
    rw [hh] at ho; cases ho; cases hc
theorem outQ_step {b : Nat} {w w1 : World} {pre : List B8} {v1 : Value} {A C : Prop} (h : A ∧ C ∧ OutI b w pre (w1.setCell ⟨b, 0, none⟩ v1)) (hq : RowQ U8V w1 v1) (hne : some b ≠ v1.ownBlock) (hv1 : (w1.setCell ⟨b, 0, none⟩ v1).cell? ⟨b, 0, none⟩ = some v1) :
    A ∧ C ∧ OutQ b w pre (w1.setCell ⟨b, 0, none⟩ v1) := by
  refine ⟨h.1, h.2.1, h.2.2, fun v hv => ?_⟩
  rw [hv1] at hv
  injection hv with hv
  subst hv
  exact hq.kept fun g hg => Below.heap_setCell w1 _ _ g (fun e => hne (by rw [hg]; exact congrArg some e.symm))

set_option maxRecDepth 100000 in
set_option maxHeartbeats 8000000 in
theorem bytesQ_any (t : Tm) (v : Value) (w : World) (h : TA w t v) (hN : (bytesT t).length ≤ 1099511627776) : Calls Try.prog 16 #[v] w fun e w' =>
    ∃ v', e = .returned v' ∧ w'.ownsRow w.heap.size 5 1 v' (bytesT t).length (encs8 (bytesT t)) ∧ RowQ U8V w' v' ∧ Below w.heap.size w w' := by
  have HTA := Lib.hid h
  obtain ⟨k0, n0, s0, l0, A0, c0, rfl, rfl, ok, hl⟩ := h.open_
  clear h ok hl
  obtain ⟨i0, hi, hz0, hz1, hz2⟩ := info_parts infoU8
  refine (callsIn_wide (n := 9)).1 ?_
  refine callsIn_of_wp_marks Try.func16 rfl trivial ?_ rfl
  simp only [Try.ntmps16, List.size_toArray, List.length_cons, List.length_nil, Nat.reduceAdd, Nat.reduceSub, Array.replicate_succ, Array.replicate_zero, List.push_toArray, List.append_toArray, List.nil_append, List.cons_append]
  gi_wp2_with (refine ⟨trivial, ?_⟩; gi_at_call 33; refine (all_in _ _ _ _ _ _ _ _).mono ?_; rintro e w' ⟨rfl, rfl⟩)
  obtain ⟨W0, hW0⟩ : ∃ W0, (((w.alloc (.cells #[.int .i64 k0, .int .i64 n0, .string s0, .slice A0 l0.length c0] 35)).alloc (.cells #[.slice none 0 0] 23)).alloc (.cells #[.int .i64 k0, .int .i64 n0, .string s0, .slice A0 l0.length c0] 35)) = W0 := ⟨_, rfl⟩
  have hz0' : W0.heap.size = w.heap.size + 3 := by rw [← hW0]; simp
  have hb0 : Below w.heap.size w W0 := by rw [← hW0]; exact ballocs (ballocs (ballocs (Below.refl _ _) _) _) _
  have hbox : Boxed W0 (w.heap.size + 1) 23 (.slice none 0 0) := by
    rw [← hW0]
    have := Blk.new (w.alloc (.cells #[.int .i64 k0, .int .i64 n0, .string s0, .slice A0 l0.length c0] 35)) 23 #[.slice none 0 0]
    rw [World.size_alloc] at this
    exact this.alloc _
  have hBs : Blk W0 (w.heap.size + 1 + 1) 35 #[.int .i64 k0, .int .i64 n0, .string s0, .slice A0 l0.length c0] := by
    rw [← hW0]
    have := Blk.new ((w.alloc (.cells #[.int .i64 k0, .int .i64 n0, .string s0, .slice A0 l0.length c0] 35)).alloc (.cells #[.slice none 0 0] 23)) 35 #[.int .i64 k0, .int .i64 n0, .string s0, .slice A0 l0.length c0]
    simp only [World.size_alloc] at this
    exact this
  have hRb : ∀ k, Rb (w.heap.size + 1) W0 k → k = w.heap.size + 1 := fun k hk => by
    rcases hk with h | ⟨o, n, c, h⟩
    · exact h
    · rw [hbox.cell] at h; injection h with h; cases h
  have hV0 : Vb (w.heap.size + 1) W0 := ⟨by omega, fun k hk => by have := hRb k hk; omega⟩
  rw [hW0]
  refine wpIn_rangeFunc_ownH rfl (by omega) (gf := 43) (lb := #[.pointer (some ⟨w.heap.size + 1 + 1, 0, none⟩)]) rfl trivial (enters_of Try.func43 (by kernel_rfl) rfl)
    (all_stops (w.heap.size + 1) (w.heap.size + 1 + 1) 7 (.mk k0 n0 s0 l0) k0 n0 s0 A0 l0.length c0 W0 hV0 hBs (fun j hj hr => by have := hRb j hr; omega) ((TAt.under HTA.out hb0 (fun _ h => h)).mono fun j hj => Nat.lt_succ_of_lt hj)) Kb.trans (fun W l o o' hl hlo hc _ => Kb.put (w := W0) hV0.1 W l o o' hl hlo hc) (Below.refl _ _) (fun _ => rfl)
    (OutQ (w.heap.size + 1) w) (fun _ _ _ => False) (OutQ_own (by omega)) (fun _ _ _ _ _ hs _ _ => hs) ⟨⟨⟨_, hbox, World.ownsRow_nil _ _ _ _, trivial⟩, hb0, hV0.1⟩, fun v hv => by rw [hbox.cell] at hv; injection hv with hv; subst hv; exact RowQ.none_ _ _ _⟩
    (fun x a' Wx => a' = { tmps := #[.agg #[.int .i64 k0, .int .i64 n0, .string s0, .slice A0 l0.length c0], .pointer (some ⟨w.heap.size, 0, none⟩), .slice none 0 0, .pointer (some ⟨w.heap.size + 1, 0, none⟩), .int .u8 x.1, .agg #[.int .i64 k0, .int .i64 n0, .string s0, .slice A0 l0.length c0], .func (.func 43) #[] #[.pointer (some ⟨w.heap.size + 1 + 1, 0, none⟩)], .int .u8 x.1, undef, undef, undef, undef, undef], defers := [] })
    ?hax ?assign ?body ?done ?stop
  case hax => intro y a' _ X Y row h hg hr; exact h
  case assign =>
    rintro l9 pre9 y Wx K9 hI9 hK9
    simp only [enc8]
    gi_wp2
    exact hK9 _ _ (KeepsFrom.refl _ _) (Kb.refl _ _) hI9 rfl
  case body =>
    rintro l9 pre9 y a9 Wx hl9 ⟨r9, hr9⟩ ⟨⟨⟨v9, hv9, hr, _⟩, hbel, hbl⟩, hrq⟩ rfl hlt9
    obtain ⟨v1, w1, hrun, hown, hg, _, hat⟩ := run_append_own_at (P := Try.prog) (Wx.alloc (.cells #[.int .u8 y.1] 5)) w.heap.size 23 23 5 i0 _ 1 1 Try.underlying23 hi hz0 hz1 hz2 rfl (by decide)
      v9 pre9.length (encs8 pre9) (hr.alloc _) ⟨Wx.heap.size, 0, none⟩ 1 1 [.int .u8 y.1] rfl (cell_one_new _ _ _) (by simp [Value.oneCell']) (by unfold maxLen; omega) (by omega) (by have := hbel.size; simp; omega)
    have hq0 := hrq v9 hv9.cell
    have hq1 := append_q (P := Try.prog) (Wx.alloc (.cells #[.int .u8 y.1] 5)) U8V w.heap.size 23 23 5 i0 _ Try.underlying23 hi hz0 hz1 (by omega) rfl (fun u hu => ⟨b8 0, by simp [Value.cells] at hu; rw [hu]; rfl⟩) v9 pre9.length (encs8 pre9) (hr.alloc _) (hq0.alloc hr _) ⟨Wx.heap.size, 0, none⟩ 1 1 [.int .u8 y.1] rfl (cell_one_new _ _ _) (by simp [Value.oneCell']) (fun u hu => ⟨y, by simpa using hu⟩) (by omega) (by rw [hz2]; omega) _ _ hrun
    have hne := ((hv9.alloc _).kept hg (hv9.not_row (by decide) hr)).not_row (by decide) hown
    have HST := Lib.hid (outQ_step (out_step (B := W0.heap.size) (by omega) hv9 hr hbel hown hg hat) hq1 hne (((hv9.alloc _).kept hg (hv9.not_row (by decide) hr)).set v1).cell)
    clear hq1 hne hq0 hrq
    obtain ⟨g1, c1, rfl⟩ := ownsRow_succ hown
    have hv1 : Boxed w1 (w.heap.size + 1) 23 v9 := (hv9.alloc _).kept hg (hv9.not_row (by decide) hr)
    have hq := hv9.cell
    have hq1 := hv1.cell
    have hf1 := hv1.frozen
    have HRUN := Lib.hid hrun
    clear hrun hown hg hat hr hbel
    gi_wp2_with (first
      | (gi_at_builtin; refine wpListIn_append_run rfl (.tmp 8) (.tmp 10) 23 rfl _ _ _ rfl rfl HRUN.out ?_)
      | fail)
    exact HST.out
  case done =>
    rintro D xs Wd hD hxs ⟨⟨⟨v9, hv9, hr, _⟩, hbel, hbl⟩, hrq⟩ hdf
    rw [hxs] at hr
    have hq := hv9.cell
    have HRQ := Lib.hid (hrq v9 hq)
    have HDF := Lib.hid hdf
    clear hdf hrq
    gi_wp2
    refine leaves_marks [D] _ (by simp) (fun D' hD' => ?_) fun W' hk' => ?_
    · obtain rfl : D' = D := by simpa using hD'
      exact HDF.out
    · have hnot : ∀ r, v9.ownBlock = some r → r = D → False := fun r hrr hm => by
        subst hm
        rcases hr.2 with ⟨h, _⟩ | ⟨g, cap, cur, h, _, hh, _⟩
        · rw [h] at hrr; cases hrr
        · rw [h] at hrr
          have : g = r := by injection hrr
          subst this
          rw [HDF.out] at hh
          cases hh
      refine ⟨v9, by simp [results, Try.results16, go_sem], v9, rfl, ownsRow_keep hr hk' (fun r hrr hm => ?_), HRQ.out.kept (fun g hg => ?_), hbel.trans (hk'.to_below hbel.size (fun i _ hi => by have : i = D := (by simpa using hi); omega))⟩
      · exact hnot r hrr (by simpa using hm)
      · exact hk'.block g (hr.lt g hg).2 (fun hm => hnot g hg (by simpa using hm))
  case stop => rintro D c9 pre9 W9 _ _ h _; exact h.elim
end Go.Proofs.Ytbpdaoedmjpdpaa.Hs
