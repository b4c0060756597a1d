/- slices.Clone at terms; term.MakeTuple, MakeInt, MakeAtom, each by its contract. -/
import Derived.Test.YtiknelmaepkdkaaTmMake
import Derived.WalkLawsBesides
import Derived.WalkSpells
namespace Go.Proofs.Ytiknelmaepkdkaa.K
open Go.RowKit
set_option linter.unusedVariables false
set_option linter.unusedSimpArgs false

set_option maxRecDepth 100000 in
set_option maxHeartbeats 4000000 in
theorem clone_tm (F : Nat → Prop) (l : List Tm) (A : Option Addr) (c : Nat) (w : World) (hF : ∀ b, F b → b < w.heap.size) (h : TsAt w F A l) (hn : l.length ≤ 1048576) (hA : A = none → c = 0) :
    Calls Try.prog 43 #[.slice A l.length c] w fun e w' => ∃ v, e = .returned v ∧ SlAt w' (fun b => F b ∨ (w.heap.size ≤ b ∧ b < w'.heap.size)) v l ∧ Below w.heap.size w w' := by
  obtain ⟨i0, hi, hz0, hz1, hz2⟩ := info_parts infoT
  have he := fun (w : World) => Lib.run_eql_slice_nil (P := Try.prog) w 22 24 A l.length c 0 0 Try.underlying22
  obtain ⟨vs, hV, hr⟩ := h.reads (B := w.heap.size) hF
  have HV := Lib.hid hV
  have h1 := hV.one_cell
  obtain ⟨n, hln⟩ : ∃ n, l.length = n := ⟨_, rfl⟩
  have HLN := Lib.hid hln
  rw [hln] at hr hn he ⊢
  clear hV h hln
  cases A with
  | none =>
    have hn0 : n = 0 := by
      rcases Nat.eq_zero_or_pos n with h | h
      · exact h
      · obtain ⟨ad, h', _⟩ := hr.2 h; cases h'
    subst hn0
    have hx : l = [] := List.eq_nil_of_length_eq_zero HLN.out
    subst hx
    obtain rfl := hA rfl
    clear hA HLN HV hr h1
    go_enter Try.func43, Try.ntmps43
    go_wp2
    go_ret
    exact ⟨_, rfl, SlAt.nil _ _, Below.refl _ _⟩
  | some ad =>
    clear hA
    have HH := Lib.hid (World.ownsRow_lit (base := w.heap.size) (e := 24) (size := 4) w #[] 0 (Nat.le_refl _) (Nat.zero_le _) (by simp))
    have b1 : 0 + n ≤ maxLen := by unfold maxLen; omega
    have b2 : (0 + n) * 56 ≤ 140737488355328 := by omega
    go_enter Try.func43, Try.ntmps43
    go_wp2_with (first
      | (at_builtin; refine wpList_append_any _ rfl (.tmp 5) (.tmp 6) _ rfl w.heap.size 24 i0 _ 4 56 Try.underlying22 hi hz0 hz1 hz2 rfl (by decide) (.slice (some ⟨w.heap.size, 0, none⟩) 0 0) 0 [] rfl HH.out w.heap.size (some ad) n c (flat vs) rfl (hr.alloc (Nat.le_refl _) _) h1 b1 b2 (by simp) ?_
         intro v1 w1 hown1 hg1 hat1))
    go_ret
    have hb : Below w.heap.size w w1 := ((Below.refl _ _).alloc (Nat.le_refl _) _).grown hg1 (by simp) (fun k hk => by
      simp [Value.ownBlock] at hk
      omega)
    rw [List.nil_append, Nat.zero_add] at hown1
    obtain ⟨A1, c1, rfl, g1, g2⟩ := ownsRow_form hown1
    refine ⟨_, rfl, ⟨A1, c1, by rw [HLN.out]; rfl, by rw [HLN.out]; exact g1, g2, fun e => ?_, ?_⟩, hb⟩
    · rcases hown1.2 with ⟨hv, _⟩ | ⟨g, cap, cur, hv, _⟩
      · injection hv
      · injection hv with hv _ _
        rw [e] at hv; cases hv
    · exact ((HV.out.keep fun p hp => hb.cell (hF _ hp)).mono fun b hb' => .inl hb').slot hown1 HLN.out.symm fun r hr => .inr ⟨(hown1.lt r hr).1, (hown1.lt r hr).2⟩

theorem mkint_any (n : Int) (w : World) (hn : (Lit.int .i64 n).wf = true) : Calls Try.prog 21 #[.int .i64 n] w (Told w (tnum n)) := by
  have HN := Lib.hid hn
  clear hn
  go_enter Try.func21, Try.ntmps21
  go_wp2
  exact bodyPost_ret (v := .agg #[.int .i64 1, .int .i64 n, .string ⟨#[]⟩, .slice none 0 0]) (by simp [results, Try.results21, go_sem]) rfl ⟨_, rfl, ta_num _ n HN.out, ballocs (Below.refl w.heap.size w) _⟩
theorem mkatom_any (s : ByteArray) (w : World) (hs : s.size ≤ maxLen) : Calls Try.prog 23 #[.string s] w (Told w (tsym s)) := by
  have HN := Lib.hid hs
  clear hs
  go_enter Try.func23, Try.ntmps23
  go_wp2
  exact bodyPost_ret (v := .agg #[.int .i64 2, .int .i64 0, .string s, .slice none 0 0]) (by simp [results, Try.results23, go_sem]) rfl ⟨_, rfl, ta_sym _ s HN.out, ballocs (Below.refl w.heap.size w) _⟩
set_option maxRecDepth 100000 in
set_option maxHeartbeats 4000000 in
theorem mktuple_at (G : Nat → Prop) (l : List Tm) (A : Option Addr) (c : Nat) (w : World) (hG : ∀ b, G b → b < w.heap.size) (h : TsAt w G A l) (hn : l.length ≤ 1048576) (hA : A = none → c = 0) :
    Calls Try.prog 12 #[.slice A l.length c] w (ToldF w G (ttup l)) := by
  have HC := Lib.hid (fun W hF h => clone_tm G l A c W hF h hn hA)
  have HT := Lib.hid (TsAt.under h (ballocs (Below.refl w.heap.size w) (.cells #[.int .i64 0, .int .i64 0, .string ⟨#[]⟩, .slice none 0 0] 24)) hG)
  clear h hn hA
  go_enter Try.func12, Try.ntmps12
  go_wp2_with fail
  refine (HC.out _ (fun b hb => by have := hG b hb; rw [World.size_alloc]; omega) HT.out).mono ?_
  rintro e w1 ⟨v, rfl, ⟨A1, c1, rfl, g1, g2, g3, g4⟩, hb1⟩
  have hg : Blk w1 w.heap.size 24 #[.int .i64 0, .int .i64 0, .string ⟨#[]⟩, .slice none 0 0] := (Blk.new w _ _).below hb1 (by rw [World.size_alloc]; omega)
  obtain ⟨p0, p1, p2, p3, q0, q1, q2, q3⟩ := hg.four
  have hbw : Below w.heap.size w w1 := bnext (ballocs (Below.refl _ _) _) hb1
  have HB := Lib.hid (put4_below hbw (Nat.le_refl _) (.int .i64 7) (.int .i64 0) (.string ⟨#[]⟩) (.slice A1 l.length c1))
  have hb1' := hb1.size
  rw [World.size_alloc] at hb1'
  have ht : TAt w1 (fun b => b < w1.heap.size ∧ b ≠ w.heap.size ∧ (G b ∨ w.heap.size ≤ b)) (ttup l) (.agg #[.int .i64 7, .int .i64 0, .string ⟨#[]⟩, .slice A1 l.length c1]) :=
    TAt.of (t := ttup l) ⟨wf7, wf0, se0, g1, g2, g3⟩ (g4.mono fun b hb => by
      rw [World.size_alloc] at hb
      show b < w1.heap.size ∧ b ≠ w.heap.size ∧ (G b ∨ w.heap.size ≤ b)
      rcases hb with hb | hb
      · have := hG b hb; exact ⟨by omega, by omega, .inl hb⟩
      · exact ⟨by omega, by omega, .inr (by omega)⟩)
  have HF := Lib.hid (show TAt (put4 w1 w.heap.size (.int .i64 7) (.int .i64 0) (.string ⟨#[]⟩) (.slice A1 l.length c1)) (fun b => b < (put4 w1 w.heap.size (.int .i64 7) (.int .i64 0) (.string ⟨#[]⟩) (.slice A1 l.length c1)).heap.size ∧ (G b ∨ w.heap.size ≤ b)) (ttup l) (.agg #[.int .i64 7, .int .i64 0, .string ⟨#[]⟩, .slice A1 l.length c1]) from (ht.keep fun p hp => put4_cell _ _ _ _ _ _ p hp.2.1).mono fun b hb => by rw [put4_size]; exact ⟨hb.1, hb.2.2⟩)
  clear hg hbw hb1 g1 g2 g3 g4 ht
  go_wp2_with fail
  exact bodyPost_ret (v := .agg #[.int .i64 7, .int .i64 0, .string ⟨#[]⟩, .slice A1 l.length c1]) (by simp [results, Try.results12, go_sem, p0, p1, p2, p3]) rfl ⟨_, rfl, HF.out, HB.out⟩
end Go.Proofs.Ytiknelmaepkdkaa.K
