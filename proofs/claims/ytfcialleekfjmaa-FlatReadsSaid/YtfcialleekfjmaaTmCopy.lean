/- CopyTerm, CopyTerms of tenurekit, by contracts: the same term, in new memory. -/
import Derived.Test.YtfcialleekfjmaaTmSame
namespace Go.Proofs.Ytfcialleekfjmaa.K
open Go.RowKit
set_option linter.unusedVariables false
set_option linter.unusedSimpArgs false

/-- A term told that is the same, all of it new. -/
def Copied (w : World) (t : Tm) (e : Ending) (w' : World) : Prop := ∃ v', e = .returned v' ∧ TAt w' (Fr w w') t v' ∧ Below w.heap.size w w'
def CopiedL (w : World) (l : List Tm) (e : Ending) (w' : World) : Prop := ∃ v', e = .returned v' ∧ SlAt w' (Fr w w') v' l ∧ Below w.heap.size w w'
def CopyC (t : Tm) : Prop := nodes t ≤ 1048576 → ∀ (v : Value) (w : World), TA w t v → Calls Try.prog 22 #[v] w (Copied w t)
theorem infoT : (Try.prog.info? 24).map (fun i => (i.zero, i.size, i.bytes)) = some (some (.agg #[.int .i64 0, .int .i64 0, .string .empty, .slice none 0 0]), 4, 56) := by kernel_rfl

theorem hb_size {B : Nat} {w w1 w2 : World} (h : Below B w w1) (h' : Below w1.heap.size w1 w2) : w.heap.size ≤ w2.heap.size := Nat.le_trans h.size h'.size
def CpRel (w : World) (l : List Tm) (v i : Value) (wr : World) : Prop :=
  ∃ k : Nat, k ≤ l.length ∧ i = .int .i64 (k : Int) ∧ TRow wr w.heap.size (fun b => w.heap.size ≤ b) v (l.take k) ∧ Below w.heap.size w wr
set_option maxRecDepth 100000 in
set_option maxHeartbeats 4000000 in
theorem copyTerms_of (l : List Tm) (A : Option Addr) (c : Nat) (w : World) (h : TsA w A l) (hn : nodesL l ≤ 1048576) (ih : ∀ u ∈ l, CopyC u) :
    Calls Try.prog 47 #[.slice A l.length c] w (CopiedL w l) := by
  have hlen : l.length ≤ 1048576 := Nat.le_trans (nodesL_len l) hn
  have HR := Lib.hid (Below.refl w.heap.size w)
  obtain ⟨i0, hi, hz0, hz1, hz2⟩ := info_parts infoT
  go_enter Try.func47, Try.ntmps47
  go_wp2_with fail
  go_loopw [3, 4] (fun v i wr => CpRel w l v i wr) (fun _ i _ => l.length - (intOf i).toNat)
  case atStart => exact ⟨0, Nat.zero_le _, rfl, by simpa using TRow.none_ _ _ _, HR.out⟩
  case round =>
    obtain ⟨k, hk, rfl, hT, hb⟩ := hrel
    obtain ⟨A3, c3, rfl, _, _, _⟩ := hT.form
    have hlk : (l.take k).length = k := by rw [List.length_take]; omega
    rw [hlk] at hT ⊢
    have HB := Lib.hid hb
    clear hb
    by_cases hlt : k < l.length
    · obtain ⟨u, hu⟩ : ∃ u, l[k]? = some u := ⟨_, List.getElem?_eq_getElem hlt⟩
      obtain ⟨b, o, A1, c1, rfl, hb1, d0, d1, d2, d3, hta, _⟩ := (h.later HB.out).at_ hu
      have hm := List.mem_of_getElem? hu
      have HC := Lib.hid (ih u hm (Nat.le_trans (nodesL_mem hm) hn) _ _ hta)
      have HU := Lib.hid hu
      obtain ⟨G, vs, hV, hG, hRw⟩ := hT
      rw [hlk] at hRw
      have HV := Lib.hid hV; have HG := Lib.hid hG; have HRw := Lib.hid hRw
      have b1 : k + 1 ≤ maxLen := by unfold maxLen; omega
      have b2 : (k + 1) * 56 ≤ 140737488355328 := by omega
      clear hta h ih hu hm hV hG hRw
      have HK := Lib.hid hlk
      clear hlk
      go_wp2_with (first
        | (go_at_call 22; refine HC.out.mono ?_; rintro e w2 ⟨v2, rfl, hx, hb2⟩
           obtain ⟨A4, c4, rfl, ok4, hl4⟩ := hx.inv
           have HX := Lib.hid hx
           have HB2 := Lib.hid hb2
           have HR2 := Lib.hid (ownsRow_below HRw.out hb2 (fun r hr => (HRw.out.lt r hr).2))
           have b3 : w.heap.size ≤ (w2.alloc (.cells #[.int .i64 u.k, .int .i64 u.n, .string u.s, .slice A4 u.l.length c4] 24)).heap.size := by have := hb2.size; have := HB.out.size; simp; omega
           unfold tv
           clear hx hb2 ok4 hl4)
        | (at_builtin; refine wpList_append_own_at _ rfl _ _ 22 rfl w.heap.size 24 i0 _ 4 56 Try.underlying22 hi hz0 hz1 hz2 rfl (by decide) (.slice A3 k c3) k _ rfl (HR2.out.alloc _) ⟨w2.heap.size, 0, none⟩ 1 1 [.int .i64 u.k, .int .i64 u.n, .string u.s, .slice A4 u.l.length c4] rfl rfl (cells4_new _ _ _ _ _ _) (one4 _ _ _ _ _ _) b1 b2 b3 ?_; intro v3 w3 hR3 hg3 _ hat3)
        | fail)
      refine ⟨⟨k + 1, by omega, by go_num, ?_, (bnext HB.out HB2.out).trans (((Below.refl w.heap.size w2).alloc (by have := hb_size HB.out HB2.out; omega) _).grown hg3 (by have := hb_size HB.out HB2.out; simp; omega) (fun r hr => (HR2.out.lt r hr).1))⟩, by simp [intOf]; omega⟩
      rw [take_snoc_of HU.out]
      refine TRow.snoc (w := w2) (H := Fr wr w2) (HV.out.keep fun p hp => HB2.out.cell (HG.out _ hp).1) (fun b hb => ⟨Nat.lt_of_lt_of_le (HG.out b hb).1 HB2.out.size, (HG.out b hb).2⟩) HX.out (fun b hb => ⟨hb.2, Nat.le_trans HB.out.size hb.1, fun e => ?_⟩) hg3 (by rw [HK.out]; exact hR3) hat3
      have := (HRw.out.lt b e).2
      exact absurd hb.1 (by omega)
    · obtain rfl : k = l.length := by omega
      rw [List.take_length] at hT
      have HF := Lib.hid (hT.slAt (F := Fr w wr) (fun b h1 h2 => ⟨h2, h1⟩) (fun b h1 h2 => ⟨h2, h1⟩))
      clear hT h ih
      go_wp2_with fail
      go_ret
      exact ⟨_, rfl, HF.out, HB.out⟩

set_option maxRecDepth 100000 in
set_option maxHeartbeats 4000000 in
theorem copyTerm_any : ∀ t : Tm, CopyC t := by
  refine Tm.ind fun t ih hn v w h => ?_
  obtain ⟨k, n, s, l, A, c, rfl, rfl, ok, hl⟩ := h.open_
  simp only [Tm.l_mk] at ih
  have HR := Lib.hid (ballocs (ballocs (Below.refl w.heap.size w) (.cells #[.int .i64 k, .int .i64 n, .string s, .slice A l.length c] 24)) (.cells #[.int .i64 0, .int .i64 0, .string .empty, .slice none 0 0] 24))
  have HC := Lib.hid (copyTerms_of l A c _ ((hl.alloc (.cells #[.int .i64 k, .int .i64 n, .string s, .slice A l.length c] 24)).alloc (.cells #[.int .i64 0, .int .i64 0, .string .empty, .slice none 0 0] 24)) (by rw [nodes_mk] at hn; omega) ih)
  have HO := Lib.hid ok
  clear ih hn h hl ok
  go_enter Try.func22, Try.ntmps22
  go_wp2_with (first
    | (go_at_call 47; refine HC.out.mono ?_; rintro e w2 ⟨v2, rfl, hx, hb2⟩
       obtain ⟨A4, c4, rfl, hc1, hc2, hc3, hts⟩ := hx
       have HX := Lib.hid hts
       have HB2 := Lib.hid hb2
       have g0 := ((Blk.new w 24 #[.int .i64 k, .int .i64 n, .string s, .slice A l.length c]).alloc (.cells #[.int .i64 0, .int .i64 0, .string .empty, .slice none 0 0] 24)).below hb2 (by simp; omega)
       have g1 := (Blk.new (w.alloc (.cells #[.int .i64 k, .int .i64 n, .string s, .slice A l.length c] 24)) 24 #[.int .i64 0, .int .i64 0, .string .empty, .slice none 0 0]).below hb2 (by simp)
       simp only [World.size_alloc] at g1
       obtain ⟨p0, p1, p2, p3, q0, q1, q2, q3⟩ := g0.four
       obtain ⟨r0, r1, r2, r3, s0, s1, s2, s3⟩ := g1.four
       clear hts hb2 g0 g1)
    | fail)
  refine bodyPost_ret (v := .agg #[.int .i64 k, .int .i64 n, .string s, .slice A4 l.length c4]) (by simp [results, Try.results22, go_sem, r0, r1, r2, r3]) rfl ⟨_, rfl, ?_, ?_⟩
  · have ok := HO.out
    refine TAt.of (t := .mk k n s l) ⟨ok.wk, ok.wn, ok.ws, hc1, hc2, hc3⟩ ((HX.out.keep fun p hp => ?_).mono fun b hb => ?_)
    · have h1 : p.block ≠ w.heap.size := by have := hp.1; simp at this; omega
      have h2 : p.block ≠ w.heap.size + 1 := by have := hp.1; simp at this; omega
      rw [cell_far _ _ _ _ h2, cell_far _ _ _ _ h2, cell_far _ _ _ _ h2, cell_far _ _ _ _ h2, cell_far _ _ _ _ h1]
    · have h1 := hb.1
      have h2 := hb.2
      simp at h1
      exact ⟨by omega, by simp [World.setCell]; omega⟩
  · exact (((((bnext HR.out HB2.out).setCell (p := ⟨w.heap.size, 3, none⟩) (Nat.le_refl _) _).setCell (p := ⟨w.heap.size + 1, 0, none⟩) (Nat.le_succ _) _).setCell (p := ⟨w.heap.size + 1, 1, none⟩) (Nat.le_succ _) _).setCell (p := ⟨w.heap.size + 1, 2, none⟩) (Nat.le_succ _) _).setCell (p := ⟨w.heap.size + 1, 3, none⟩) (Nat.le_succ _) _
theorem copyTerms_any (l : List Tm) (A : Option Addr) (c : Nat) (w : World) (h : TsA w A l) (hn : nodesL l ≤ 1048576) :
    Calls Try.prog 47 #[.slice A l.length c] w (CopiedL w l) := copyTerms_of l A c w h hn (fun u _ => copyTerm_any u)
end Go.Proofs.Ytfcialleekfjmaa.K
