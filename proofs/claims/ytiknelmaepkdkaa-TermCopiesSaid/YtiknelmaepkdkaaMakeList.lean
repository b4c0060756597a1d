/- term.MakeList, by its contract. -/
import Derived.Test.YtiknelmaepkdkaaBackward
import Derived.Test.YtiknelmaepkdkaaTmMake
import Derived.Test.YtiknelmaepkdkaaTmKeep
import Derived.RangeFuncNested
namespace Go.Proofs.Ytiknelmaepkdkaa.K
open Go.RowKit Go.Shelf
set_option linter.unusedVariables false
set_option linter.unusedSimpArgs false
attribute [local go_sem] Oper.semAt_some

abbrev Vt (w : World) (G : Nat → Prop) := { x : TV // ∃ u, TAt w G u x.val }
noncomputable def tmOf {w : World} {G : Nat → Prop} (x : Vt w G) : Tm := Classical.choose x.2
theorem tmOf_at {w : World} {G : Nat → Prop} (x : Vt w G) : TAt w G (tmOf x) x.1.val := Classical.choose_spec x.2
/-- What has come, as terms, in their order. -/
noncomputable def came {w : World} {G : Nat → Prop} (pre : List (Nat × Vt w G)) : List Tm := (pre.map fun p => tmOf p.2).reverse
theorem came_snoc {w : World} {G : Nat → Prop} (pre : List (Nat × Vt w G)) (y : Nat × Vt w G) : came (pre ++ [y]) = tmOf y.2 :: came pre := by simp [came]
theorem tmOf_all {w : World} {G : Nat → Prop} {l : List Tm} {vs : List (Vt w G)} (h : TsVs w G l (vs.map (·.1.val))) : vs.map tmOf = l := by
  induction vs generalizing l with
  | nil => cases h; rfl
  | cons x vs ih =>
    cases h with
    | cons h r => rw [List.map_cons, ih r, TAt.uniq _ _ _ (tmOf_at x) h]
theorem came_all {w : World} {G : Nat → Prop} {l : List Tm} {vs : List (Vt w G)} (h : TsVs w G l (vs.map (·.1.val))) : came (bk vs vs.length) = l := by
  unfold came
  rw [show (bk vs vs.length).map (fun p => tmOf p.2) = ((bk vs vs.length).map (·.2)).map tmOf from by simp, bk_whole, List.map_reverse, List.reverse_reverse, tmOf_all h]
/-- The tail so far. -/
def MlI (w : World) (G : Nat → Prop) (e : Tm) (pre : List (Nat × Vt w G)) (W : World) : Prop :=
  ∃ (k n : Int) (s : ByteArray) (A : Option Addr) (m c : Nat), TAt W (fun b => b < W.heap.size ∧ b ≠ w.heap.size ∧ b ≠ w.heap.size + 1 ∧ (G b ∨ w.heap.size ≤ b)) (tlist (came pre) e) (.agg #[.int .i64 k, .int .i64 n, .string s, .slice A m c]) ∧
    Blk W w.heap.size 24 #[.int .i64 k, .int .i64 n, .string s, .slice A m c] ∧ Blk W (w.heap.size + 1) 24 #[.int .i64 0, .int .i64 0, .string ⟨#[]⟩, .slice none 0 0] ∧ Below w.heap.size w W ∧ w.heap.size + 3 ≤ W.heap.size
theorem MlI_own (w : World) (G : Nat → Prop) (e : Tm) : OwnFrom (w.heap.size + 3) (MlI w G e) := by
  intro pre X Y row ⟨k, n, s, A, m, c, h1, h2, h3, h4, h5⟩ hg hr
  have hz := h4.size
  refine ⟨k, n, s, A, m, c, (h1.owned hg fun r e => (hr r e).2).mono fun b hb => ⟨Nat.lt_of_lt_of_le hb.1 hg.size, hb.2⟩, ?_, ?_, h4.grown hg hz (fun r e => by have := (hr r e).1; omega), Nat.le_trans h5 hg.size⟩
  · exact (hg.block _ h2.lt (fun e => by have := (hr _ e.symm).1; omega)).trans h2
  · exact (hg.block _ h3.lt (fun e => by have := (hr _ e.symm).1; omega)).trans h3
theorem MlI_start {w : World} {G : Nat → Prop} (hG : ∀ b, G b → b < w.heap.size) {e : Tm} {k n : Int} {s : ByteArray} {A : Option Addr} {m c : Nat} (he : TAt w G e (.agg #[.int .i64 k, .int .i64 n, .string s, .slice A m c])) (o : Obj) :
    MlI w G e [] (((w.alloc (.cells #[.int .i64 k, .int .i64 n, .string s, .slice A m c] 24)).alloc (.cells #[.int .i64 0, .int .i64 0, .string ⟨#[]⟩, .slice none 0 0] 24)).alloc o) := by
  have h1 := Blk.new w 24 #[.int .i64 k, .int .i64 n, .string s, .slice A m c]
  have h2 := Blk.new (w.alloc (.cells #[.int .i64 k, .int .i64 n, .string s, .slice A m c] 24)) 24 #[.int .i64 0, .int .i64 0, .string ⟨#[]⟩, .slice none 0 0]
  simp only [World.size_alloc] at h2
  refine ⟨k, n, s, A, m, c, ?_, (h1.alloc _).alloc _, h2.alloc _, ballocs (ballocs (ballocs (Below.refl _ _) _) _) _, by simp⟩
  refine (TAt.under (show TAt w G (tlist (came []) e) _ from he) (ballocs (ballocs (ballocs (Below.refl _ _) _) _) _) hG).mono fun b hb => ?_
  have := hG b hb
  simp
  exact ⟨by omega, by omega, by omega, .inl hb⟩
theorem MlI_alloc {w W : World} {G : Nat → Prop} {e : Tm} {pre : List (Nat × Vt w G)} (h : MlI w G e pre W) (o : Obj) : MlI w G e pre (W.alloc o) := by
  obtain ⟨k, n, s, A, m, c, h1, h2, h3, h4, h5⟩ := h
  exact ⟨k, n, s, A, m, c, (TAt.under h1 ((Below.refl _ W).alloc (Nat.le_refl _) o) (fun b hb => hb.1)).mono fun b hb => ⟨by rw [World.size_alloc]; omega, hb.2⟩, h2.alloc _, h3.alloc _, ballocs h4 _, by rw [World.size_alloc]; omega⟩
theorem ml_step {w W : World} {G : Nat → Prop} (hG : ∀ b, G b → b < w.heap.size) {e : Tm} {pre : List (Nat × Vt w G)} {y : Nat × Vt w G} {k n : Int} {s : ByteArray} {A : Option Addr} {m c : Nat}
    (h1 : TAt W (fun b => b < W.heap.size ∧ b ≠ w.heap.size ∧ b ≠ w.heap.size + 1 ∧ (G b ∨ w.heap.size ≤ b)) (tlist (came pre) e) (.agg #[.int .i64 k, .int .i64 n, .string s, .slice A m c])) (h2 : Blk W w.heap.size 24 #[.int .i64 k, .int .i64 n, .string s, .slice A m c])
    (h3 : Blk W (w.heap.size + 1) 24 #[.int .i64 0, .int .i64 0, .string ⟨#[]⟩, .slice none 0 0]) (h4 : Below w.heap.size w W) (hz : w.heap.size + 3 ≤ W.heap.size) :
    let E := put4 (W.alloc (.cells #[.int .i64 y.2.1.k, .int .i64 y.2.1.n, .string y.2.1.s, .slice y.2.1.A y.2.1.m y.2.1.c, .int .i64 k, .int .i64 n, .string s, .slice A m c] 24)) w.heap.size (.int .i64 9) (.int .i64 0) (.string ⟨#[]⟩) (.slice (some ⟨W.heap.size, 0, none⟩) 2 2)
    KeepsFrom (w.heap.size + 3) W E ∧ KQ (fun k => k < w.heap.size ∨ k = w.heap.size + 2) W E ∧ MlI w G e (pre ++ [y]) E := by
  intro E
  have hE : ∀ b, b ≠ w.heap.size → b < W.heap.size → E.heap[b]? = W.heap[b]? := fun b hb hl => by
    have h5 : Keep (fun b => b = w.heap.size) W E := put4_keep ((Keep.refl (fun b => b = w.heap.size) W).alloc _) (.inl rfl) _ _ _ _
    exact h5.block b hl hb
  have hsz : E.heap.size = W.heap.size + 1 := (put4_size _ _ _ _ _ _).trans (by simp)
  refine ⟨⟨by omega, fun b o hb ho _ => (hE b (by omega) (Array.getElem?_eq_some_iff.1 ho).1).trans ho⟩, ⟨by omega, fun b hb hl => hE b (by omega) hl⟩, 9, 0, ⟨#[]⟩, some ⟨W.heap.size, 0, none⟩, 2, 2, ?_, put4_blk (h2.alloc _) _ _ _ _, put4_far (h3.alloc _) (by omega) _ _ _ _, put4_below (ballocs h4 _) (Nat.le_refl _) _ _ _ _, by rw [show (put4 _ _ _ _ _ _).heap.size = W.heap.size + 1 from hsz]; omega⟩
  rw [came_snoc]
  have hu' : TAt W (fun b => b < W.heap.size ∧ b ≠ w.heap.size ∧ b ≠ w.heap.size + 1 ∧ (G b ∨ w.heap.size ≤ b)) (tmOf y.2) (.agg #[.int .i64 y.2.1.k, .int .i64 y.2.1.n, .string y.2.1.s, .slice y.2.1.A y.2.1.m y.2.1.c]) := (TAt.under (tmOf_at y.2) h4 hG).mono fun b hb => by have := hG b hb; exact ⟨by omega, by omega, by omega, .inl hb⟩
  have h5 := ta_consF hu' h1 (fun b hb => hb.1) #[.int .i64 y.2.1.k, .int .i64 y.2.1.n, .string y.2.1.s, .slice y.2.1.A y.2.1.m y.2.1.c, .int .i64 k, .int .i64 n, .string s, .slice A m c] rfl
  refine (h5.keep fun p hp => put4_cell _ _ _ _ _ _ p (by
    rcases hp with hp | hp
    · exact hp.2.1
    · omega)).mono fun b hb => ?_
  rw [show (put4 _ _ _ _ _ _).heap.size = W.heap.size + 1 from hsz]
  rcases hb with hb | hb
  · exact ⟨by omega, hb.2⟩
  · exact ⟨by omega, by omega, by omega, .inr (by omega)⟩
set_option maxRecDepth 100000 in
set_option maxHeartbeats 8000000 in
theorem mlist_at (G : Nat → Prop) (l : List Tm) (e : Tm) (A : Option Addr) (c : Nat) (v : Value) (w : World) (hG : ∀ b, G b → b < w.heap.size) (h : TsAt w G A l) (he : TAt w G e v) (hl : l.length ≤ maxLen) :
    Calls Try.prog 13 #[.slice A l.length c, v] w (ToldF w G (tlist l e)) := by
  obtain ⟨A0, c0, rfl, ok, hl0⟩ := he.inv
  obtain ⟨k0, n0, s0, l0⟩ := e
  unfold tv at he ⊢
  simp only [Tm.k_mk, Tm.n_mk, Tm.s_mk, Tm.l_mk] at he ok hl0 ⊢
  have HE := Lib.hid he
  have HL := Lib.hid h
  clear he hl0 ok h
  refine (callsIn_wide (n := 9)).1 ?_
  refine callsIn_of_wp_marks Try.func13 rfl trivial ?_ rfl
  simp only [Try.ntmps13, List.size_toArray, List.length_cons, List.length_nil, Nat.reduceAdd, Nat.reduceSub, Array.replicate_succ, Array.replicate_zero, List.push_toArray, List.append_toArray, List.nil_append, List.cons_append]
  gi_wp2_with (refine ⟨trivial, ?_⟩; gi_at_call 44; refine (back_in _ _ _ _ _).mono ?_; rintro e w' ⟨rfl, rfl⟩)
  obtain ⟨W0, hW0⟩ : ∃ W0, (((w.alloc (.cells #[.int .i64 k0, .int .i64 n0, .string s0, .slice A0 l0.length c0] 24)).alloc (.cells #[.int .i64 0, .int .i64 0, .string ⟨#[]⟩, .slice none 0 0] 24)).alloc (.cells #[.slice A l.length c] 22)) = W0 := ⟨_, rfl⟩
  have hz0 : W0.heap.size = w.heap.size + 3 := by rw [← hW0]; simp
  have hb0 : Below w.heap.size w W0 := by rw [← hW0]; exact ballocs (ballocs (ballocs (Below.refl _ _) _) _) _
  have hI0 : MlI w G (.mk k0 n0 s0 l0) [] W0 := by rw [← hW0]; exact MlI_start hG HE.out _
  obtain ⟨cvs, hcl, hcv, hcs⟩ := HL.out.tvs (fun x => ∃ u, TAt w G u x.val) (fun u x _ hx => ⟨u, hx⟩)
  have hbs : W0.cell? ⟨w.heap.size + 1 + 1, 0, none⟩ = some (.slice A cvs.length c) := by
    rw [← hW0, hcl]
    have := (Blk.new ((w.alloc (.cells #[.int .i64 k0, .int .i64 n0, .string s0, .slice A0 l0.length c0] 24)).alloc (.cells #[.int .i64 0, .int .i64 0, .string ⟨#[]⟩, .slice none 0 0] 24)) 22 #[.slice A l.length c]).cell 0
    simp only [World.size_alloc] at this
    exact this
  have hQ : ∀ k, (k < w.heap.size ∨ k = w.heap.size + 1 + 1) → k < W0.heap.size := fun k hk => by omega
  have hll : cvs.length ≤ maxLen := by rw [hcl]; exact hl
  rw [hW0]
  refine wpIn_rangeFunc_ownH rfl (by omega) (gf := 52) (lb := #[.pointer (some ⟨w.heap.size + 1 + 1, 0, none⟩)]) rfl trivial (enters_of Try.func52 (by kernel_rfl) rfl)
    (back_stops 7 (w.heap.size + 1 + 1) c A cvs (fun k => k < w.heap.size ∨ k = w.heap.size + 1 + 1) (.inr rfl) hll W0 hbs (by omega) hQ (fun i v hv => ((hcs i v hv).keep fun p hp => hb0.cell (hG _ hp)).mono fun b hb => .inl (hG b hb))) KQ.trans (KQ.put hQ) (Below.refl _ _) (fun _ => rfl)
    (MlI w G (.mk k0 n0 s0 l0)) (fun _ _ _ => False) (by rw [hz0]; exact MlI_own w G _) (fun _ _ _ _ _ hs _ _ => hs) hI0
    (fun y a' Wx => ∃ Bx, W0.heap.size ≤ Bx ∧ Blk Wx Bx 24 #[.int .i64 y.2.1.k, .int .i64 y.2.1.n, .string y.2.1.s, .slice y.2.1.A y.2.1.m y.2.1.c] ∧ a' = { tmps := #[.slice A l.length c, .agg #[.int .i64 k0, .int .i64 n0, .string s0, .slice A0 l0.length c0], undef, .pointer (some ⟨w.heap.size, 0, none⟩), .pointer (some ⟨w.heap.size + 1, 0, none⟩), undef, .pointer (some ⟨Bx, 0, none⟩), .slice A l.length c, .func (.func 52) #[] #[.pointer (some ⟨w.heap.size + 1 + 1, 0, none⟩)], .int .i64 (y.1 : Int), y.2.1.val, undef, undef, undef, undef, undef], defers := [] })
    ?hax ?assign ?body ?done ?stop
  case hax =>
    intro y a' _ X Y row ⟨Bx, h1, h2, h3⟩ hg hr
    exact ⟨Bx, h1, h2.grown hg (fun e => by
      obtain ⟨_, o, ho, hc⟩ := hr Bx e.symm
      unfold Blk at h2
      rw [h2] at ho; cases ho; cases hc), h3⟩
  case assign =>
    rintro l9 pre9 y Wx K9 hI9 hK9
    have hz9 : W0.heap.size ≤ Wx.heap.size := by
      obtain ⟨_, _, _, _, _, _, _, h2, h3, h4, h5⟩ := hI9
      omega
    simp only [bkEnc, TV.val]
    gi_wp2
    refine hK9 _ _ ((KeepsOthers.alloc _ _).from _) ⟨by simp, fun k hk hl => Below.heap_alloc Wx _ k hl⟩ (MlI_alloc hI9 _) ⟨Wx.heap.size, hz9, Blk.new _ _ _, rfl⟩
  case body =>
    rintro l9 pre9 y a9 Wx hl9 ⟨r9, hr9⟩ hI9 ⟨Bx, hBx, hX9, rfl⟩ hlt9
    obtain ⟨k, n, s, A7, m, c7, h1, h2, h3, h4, h5⟩ := hI9
    have hlx := hX9.lt
    have HST := Lib.hid (ml_step (y := y) hG h1 h2 h3 h4 h5)
    obtain ⟨z0, z1, z2, z3, _, _, _, _⟩ := hX9.four
    obtain ⟨p0, p1, p2, p3, q0, q1, q2, q3⟩ := h2.four
    obtain ⟨r0, r1, r2, r3, s0, s1, s2, s3⟩ := (h2.alloc (.cells #[.int .i64 y.2.1.k, .int .i64 y.2.1.n, .string y.2.1.s, .slice y.2.1.A y.2.1.m y.2.1.c, .int .i64 k, .int .i64 n, .string s, .slice A7 m c7] 24)).four
    clear h1 h2 h3 h4 hX9
    gi_wp2
    exact HST.out
  case done =>
    rintro D xs Wd hD hxs hI9 hdf
    rw [hxs] at hI9
    obtain ⟨k, n, s, A7, m, c7, h1, h2, h3, h4, h5⟩ := hI9
    rw [came_all hcv] at h1
    obtain ⟨p0, p1, p2, p3, q0, q1, q2, q3⟩ := h2.four
    obtain ⟨r0, r1, r2, r3, s0', s1, s2, s3⟩ := h3.four
    have HDF := Lib.hid hdf
    have HT := Lib.hid h1
    have H3 := Lib.hid h3
    have H4 := Lib.hid h4
    have H5 := Lib.hid h5
    clear hdf h1 h2 h3 h4 h5 hxs hcs hcv hbs hI0 hb0 hW0 HL HE
    gi_wp2
    refine leaves_marks [D] _ (by simp) (fun D' hD' => ?_) fun W' hk' => ?_
    · obtain rfl : D' = D := by simpa using hD'
      have h9 : Keep (fun b => b = w.heap.size + 1) Wd (put4 Wd (w.heap.size + 1) (.int .i64 k) (.int .i64 n) (.string s) (.slice A7 m c7)) := put4_keep (Keep.refl (fun b => b = w.heap.size + 1) Wd) (.inl rfl) _ _ _ _
      exact (h9.block D' (Array.getElem?_eq_some_iff.1 HDF.out).1 (by omega)).trans HDF.out
    · have h9 : Keep (fun b => b = w.heap.size + 1) Wd (put4 Wd (w.heap.size + 1) (.int .i64 k) (.int .i64 n) (.string s) (.slice A7 m c7)) := put4_keep (Keep.refl (fun b => b = w.heap.size + 1) Wd) (.inl rfl) _ _ _ _
      have hk2 : Keep (fun b => b ∈ [D]) (put4 Wd (w.heap.size + 1) (.int .i64 k) (.int .i64 n) (.string s) (.slice A7 m c7)) W' := hk'
      have hB := put4_blk H3.out (.int .i64 k) (.int .i64 n) (.string s) (.slice A7 m c7)
      have hD1 : (put4 Wd (w.heap.size + 1) (.int .i64 k) (.int .i64 n) (.string s) (.slice A7 m c7)).heap[D]? = some (.deferred (some [])) := (h9.block D (Array.getElem?_eq_some_iff.1 HDF.out).1 (by omega)).trans HDF.out
      obtain ⟨t0, t1, t2, t3, _, _, _, _⟩ := (hB.keep hk2 (by simp; omega)).four
      have hT2 : TAt (put4 Wd (w.heap.size + 1) (.int .i64 k) (.int .i64 n) (.string s) (.slice A7 m c7)) _ (tlist l (.mk k0 n0 s0 l0)) (.agg #[.int .i64 k, .int .i64 n, .string s, .slice A7 m c7]) := HT.out.keep fun p hp => put4_cell _ _ _ _ _ _ p hp.2.2.1
      have hT3 := hT2.keepc (w' := W') fun p x hp hc => by
        have hlt := World.block_lt_of_cell? _ _ hc
        refine (hk2.cell hlt fun e => ?_).trans hc
        have e : p.block = D := by simpa using e
        unfold World.cell? at hc
        rw [e, hD1] at hc
        cases hc
      have hsz : (put4 Wd (w.heap.size + 1) (.int .i64 k) (.int .i64 n) (.string s) (.slice A7 m c7)).heap.size = Wd.heap.size := put4_size _ _ _ _ _ _
      have hs2 := hk2.size
      have hs5 := H5.out
      exact ⟨.agg #[.int .i64 k, .int .i64 n, .string s, .slice A7 m c7], by simp [results, Try.results13, go_sem, t0, t1, t2, t3], _, rfl, hT3.mono fun b hb => ⟨by omega, hb.2.2.2⟩, (put4_below H4.out (by omega) _ _ _ _).trans (hk2.to_below (by omega) (fun i _ hi => by have : i = D := (by simpa using hi); omega))⟩
  case stop => rintro D c9 pre9 W9 _ _ h _; exact h.elim
end Go.Proofs.Ytiknelmaepkdkaa.K
