/- hash.Hash, by its contract. -/
import Derived.Test.YtbpdaoedmjpdpaaHashBytes
namespace Go.Proofs.Ytbpdaoedmjpdpaa.Hs
open Go.RowKit Go.Shelf K
set_option linter.unusedVariables false
set_option linter.unusedSimpArgs false
attribute [local go_sem] Oper.semAt_some

/-- The mixed bytes, mixed once more. -/
def finI (h : Int) : Int :=
  let h1 := bits .xor .u32 h (h / 65536)
  let h2 := h1 * 2146121005 % 4294967296
  bits .xor .u32 h2 (h2 / 32768)
def hashT (t : Tm) : Int := finI (mixL 2166136261 (bytesT t))
def HashI (b : Nat) (w : World) (pre : List B8) (W : World) : Prop := Boxed W b 22 (.int .u32 (mixL 2166136261 pre)) ∧ Below w.heap.size w W
theorem HashI_own {b : Nat} {w : World} {B : Nat} (hB : w.heap.size ≤ B) : OwnFrom B (HashI b w) := by
  intro pre X Y row ⟨h1, h2⟩ hg hr
  refine ⟨h1.kept hg (fun e' => ?_), h2.grown hg h2.size (fun r e => by have := (hr r e).1; omega)⟩
  obtain ⟨_, o, ho, hc⟩ := hr b e'.symm
  rw [show X.heap[b]? = some _ from h1] at ho; cases ho; cases hc
theorem hash_step {b : Nat} {w Wx : World} {pre : List B8} {x : B8} {B : Nat} (hb : w.heap.size ≤ b) (h : HashI b w pre Wx) :
    KeepsFrom B Wx (Wx.setCell ⟨b, 0, none⟩ (.int .u32 (mixI (mixL 2166136261 pre) x.1))) ∧ Kb b Wx (Wx.setCell ⟨b, 0, none⟩ (.int .u32 (mixI (mixL 2166136261 pre) x.1))) ∧ HashI b w (pre ++ [x]) (Wx.setCell ⟨b, 0, none⟩ (.int .u32 (mixI (mixL 2166136261 pre) x.1))) := by
  obtain ⟨h1, h2⟩ := h
  have hs := h1.set (.int .u32 (mixI (mixL 2166136261 pre) x.1))
  have hz : (Wx.setCell ⟨b, 0, none⟩ (.int .u32 (mixI (mixL 2166136261 pre) x.1))).heap.size = Wx.heap.size := by simp [World.setCell]
  have hlt := h1.lt
  have hRb : ∀ k, Rb b (Wx.setCell ⟨b, 0, none⟩ (.int .u32 (mixI (mixL 2166136261 pre) x.1))) k → k = b := fun k hk => by
    rcases hk with h | ⟨o, n, c, h⟩
    · exact h
    · rw [hs.cell] at h; injection h with h; cases h
  refine ⟨(KeepsOthers.setCell _ _ _).from _, ⟨by omega, fun hV => ⟨by omega, fun k hk => by have := hRb k hk; omega⟩, fun k hk hn => ⟨fun hk' => hn (.inl (hRb k hk')), fun o ho hc => ?_⟩⟩, ?_, h2.setCell (p := ⟨b, 0, none⟩) hb _⟩
  · rw [Below.heap_setCell Wx _ _ k (fun e => hn (.inl e))]
    exact ho
  · have : mixL 2166136261 (pre ++ [x]) = mixI (mixL 2166136261 pre) x.1 := by simp [mixL]
    rw [this]
    exact hs

set_option maxRecDepth 100000 in
set_option maxHeartbeats 8000000 in
theorem hash_any (t : Tm) (v : Value) (w : World) (h : TA w t v) : Calls Try.prog 25 #[v] w fun e w' => e = .returned (.int .u32 (hashT t)) ∧ Below w.heap.size w w' := by
  have HTA := Lib.hid h
  obtain ⟨k0, n0, s0, l0, A0, c0, rfl, rfl, ok, hl⟩ := h.open_
  clear h ok hl
  refine (callsIn_wide (n := 9)).1 ?_
  refine callsIn_of_wp_marks Try.func25 rfl trivial ?_ rfl
  simp only [Try.ntmps25, List.size_toArray, List.length_cons, List.length_nil, Nat.reduceAdd, Nat.reduceSub, Array.replicate_succ, Array.replicate_zero, List.push_toArray, List.append_toArray, List.nil_append, List.cons_append]
  gi_wp2_with (refine ⟨trivial, ?_⟩; gi_at_call 33; refine (all_in _ _ _ _ _ _ _ _).mono ?_; rintro e w' ⟨rfl, rfl⟩)
  obtain ⟨W0, hW0⟩ : ∃ W0, (((w.alloc (.cells #[.int .i64 k0, .int .i64 n0, .string s0, .slice A0 l0.length c0] 35)).alloc (.cells #[.int .u32 2166136261] 22)).alloc (.cells #[.int .i64 k0, .int .i64 n0, .string s0, .slice A0 l0.length c0] 35)) = W0 := ⟨_, rfl⟩
  have hz0' : W0.heap.size = w.heap.size + 3 := by rw [← hW0]; simp
  have hb0 : Below w.heap.size w W0 := by rw [← hW0]; exact ballocs (ballocs (ballocs (Below.refl _ _) _) _) _
  have hbox : Boxed W0 (w.heap.size + 1) 22 (.int .u32 2166136261) := by
    rw [← hW0]
    have := Blk.new (w.alloc (.cells #[.int .i64 k0, .int .i64 n0, .string s0, .slice A0 l0.length c0] 35)) 22 #[.int .u32 2166136261]
    rw [World.size_alloc] at this
    exact this.alloc _
  have hBs : Blk W0 (w.heap.size + 1 + 1) 35 #[.int .i64 k0, .int .i64 n0, .string s0, .slice A0 l0.length c0] := by
    rw [← hW0]
    have := Blk.new ((w.alloc (.cells #[.int .i64 k0, .int .i64 n0, .string s0, .slice A0 l0.length c0] 35)).alloc (.cells #[.int .u32 2166136261] 22)) 35 #[.int .i64 k0, .int .i64 n0, .string s0, .slice A0 l0.length c0]
    simp only [World.size_alloc] at this
    exact this
  have hRb : ∀ k, Rb (w.heap.size + 1) W0 k → k = w.heap.size + 1 := fun k hk => by
    rcases hk with h | ⟨o, n, c, h⟩
    · exact h
    · rw [hbox.cell] at h; injection h with h; cases h
  have hV0 : Vb (w.heap.size + 1) W0 := ⟨by omega, fun k hk => by have := hRb k hk; omega⟩
  try rw [hW0]
  refine wpIn_rangeFunc_ownH rfl (by omega) (gf := 43) (lb := #[.pointer (some ⟨w.heap.size + 1 + 1, 0, none⟩)]) rfl trivial (enters_of Try.func43 (by kernel_rfl) rfl)
    (all_stops (w.heap.size + 1) (w.heap.size + 1 + 1) 7 (.mk k0 n0 s0 l0) k0 n0 s0 A0 l0.length c0 W0 hV0 hBs (fun j hj hr => by have := hRb j hr; omega) ((TAt.under HTA.out hb0 (fun _ h => h)).mono fun j hj => Nat.lt_succ_of_lt hj)) Kb.trans (fun W l o o' hl hlo hc _ => Kb.put (w := W0) hV0.1 W l o o' hl hlo hc) (Below.refl _ _) (fun _ => rfl)
    (HashI (w.heap.size + 1) w) (fun _ _ _ => False) (HashI_own (by omega)) (fun _ _ _ _ _ hs _ _ => hs) ⟨hbox, hb0⟩
    (fun x a' Wx => a' = { tmps := #[.agg #[.int .i64 k0, .int .i64 n0, .string s0, .slice A0 l0.length c0], .pointer (some ⟨w.heap.size, 0, none⟩), .int .u32 0, .pointer (some ⟨w.heap.size + 1, 0, none⟩), .int .u8 x.1, .agg #[.int .i64 k0, .int .i64 n0, .string s0, .slice A0 l0.length c0], .func (.func 43) #[] #[.pointer (some ⟨w.heap.size + 1 + 1, 0, none⟩)], .int .u8 x.1, undef, undef, undef, undef, undef, undef, undef, undef, undef, undef, undef, undef, undef], defers := [] })
    ?hax ?assign ?body ?done ?stop
  case hax => intro y a' _ X Y row h hg hr; exact h
  case assign =>
    rintro l9 pre9 y Wx K9 hI9 hK9
    simp only [enc8]
    gi_wp2
    exact hK9 _ _ (KeepsFrom.refl _ _) (Kb.refl _ _) hI9 rfl
  case body =>
    rintro l9 pre9 y a9 Wx hl9 ⟨r9, hr9⟩ hI9 rfl hlt9
    have HST := Lib.hid (hash_step (B := W0.heap.size) (x := y) (by omega) hI9)
    have hr := mixL_range pre9 (h := 2166136261) (by omega)
    have HMX := Lib.hid (mixed_any (mixL 2166136261 pre9) y.1 Wx hr.1 hr.2 y.2.1 y.2.2)
    have hq := hI9.1.cell
    have hf := hI9.1.frozen
    clear hI9 hr
    gi_wp2_with (refine ⟨trivial, ?_⟩; gi_at_call 32; refine (CallsIn.inRound l9 (callsIn_wide.2 HMX.out)).mono ?_; rintro e W1 ⟨rfl, rfl⟩)
    exact HST.out
  case done =>
    rintro D xs Wd hD hxs ⟨hv9, hbel⟩ hdf
    rw [hxs] at hv9
    have hr := mixL_range (bytesT (.mk k0 n0 s0 l0)) (h := 2166136261) (by omega)
    have HE := Lib.hid (show finI (mixL 2166136261 (bytesT (.mk k0 n0 s0 l0))) = hashT (.mk k0 n0 s0 l0) from rfl)
    obtain ⟨y, hy⟩ : ∃ y, mixL 2166136261 (bytesT (.mk k0 n0 s0 l0)) = y := ⟨_, rfl⟩
    rw [hy] at hv9 hr HE
    obtain ⟨r1, r2⟩ := hr
    have hq := hv9.cell
    have hf := hv9.frozen
    have HDF := Lib.hid hdf
    clear hdf hy
    gi_wp2
    refine leaves_marks [D] _ (by simp) (fun D' hD' => ?_) fun W' hk' => ?_
    · obtain rfl : D' = D := by simpa using hD'
      rw [Below.heap_setCell _ _ _ D' (by show D' ≠ w.heap.size + 1; omega), Below.heap_setCell _ _ _ D' (by show D' ≠ w.heap.size + 1; omega)]
      exact HDF.out
    · have hz : ((Wd.setCell ⟨w.heap.size + 1, 0, none⟩ (.int .u32 (bits .xor .u32 y (y / 65536)))).setCell ⟨w.heap.size + 1, 0, none⟩ (.int .u32 (bits .xor .u32 y (y / 65536) * 2146121005 % 4294967296))).heap.size = Wd.heap.size := by simp [World.setCell]
      have hb2 := (hbel.setCell (p := ⟨w.heap.size + 1, 0, none⟩) (Nat.le_succ _) (.int .u32 (bits .xor .u32 y (y / 65536)))).setCell (p := ⟨w.heap.size + 1, 0, none⟩) (Nat.le_succ _) (.int .u32 (bits .xor .u32 y (y / 65536) * 2146121005 % 4294967296))
      exact ⟨.int .u32 (finI y), by simp [results, Try.results25, go_sem, finI], by rw [HE.out], hb2.trans (hk'.to_below (by rw [hz]; exact hbel.size) (fun i _ hi => by have : i = D := (by simpa using hi); omega))⟩
  case stop => rintro D c9 pre9 W9 _ _ h _; exact h.elim
end Go.Proofs.Ytbpdaoedmjpdpaa.Hs
