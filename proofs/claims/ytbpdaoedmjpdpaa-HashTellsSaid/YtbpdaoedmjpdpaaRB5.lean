/- tenureref04.Bytes at a kind of terms. -/
import Derived.Test.YtbpdaoedmjpdpaaRBase
namespace Go.Proofs.Ytbpdaoedmjpdpaa.Hs
open Go.RowKit K
set_option linter.unusedVariables false
set_option linter.unusedSimpArgs false

set_option maxRecDepth 100000 in
set_option maxHeartbeats 4000000 in
theorem rb_5 (k0 n0 : Int) (s : ByteArray) (l : List Tm) (A : Option Addr) (c : Nat) (w : World) (ok : TOk (.mk k0 n0 s l) A c) (hl : TsA w A l) (ih : ∀ u ∈ l, RBytesC u) (hN : (bytesT (.mk k0 n0 s l)).length ≤ 1099511627776) (hk : k0 = 5) :
    Calls Try.prog 24 #[.agg #[.int .i64 k0, .int .i64 n0, .string s, .slice A l.length c]] w fun e w' =>
      ∃ v', e = .returned v' ∧ w'.ownsRow w.heap.size 5 1 v' (bytesT (.mk k0 n0 s l)).length (encs8 (bytesT (.mk k0 n0 s l))) ∧ Below w.heap.size w w' := by
  have hll : l.length ≤ 9223372036854775807 := by have := Nat.le_trans ok.hl ok.hc; unfold maxLen at this; exact this
  have hss : s.size ≤ 9223372036854775807 := by have := ok.ws; unfold maxLen at this; exact this
  obtain ⟨w1, hw1⟩ : ∃ w1, w.alloc (.cells #[.int .i64 k0, .int .i64 n0, .string s, .slice A l.length c] 35) = w1 := ⟨_, rfl⟩
  have hz1 : w1.heap.size = w.heap.size + 1 := by rw [← hw1]; simp
  have hbb : Below w.heap.size w w1 := by rw [← hw1]; exact ballocs (Below.refl w.heap.size w) _
  have HR := Lib.hid hbb
  have hg := (show Blk w1 w.heap.size 35 #[.int .i64 k0, .int .i64 n0, .string s, .slice A l.length c] from by rw [← hw1]; exact Blk.new _ _ _)
  have HG := Lib.hid hg
  have HL := Lib.hid (hl.later HR.out)
  have HW := Lib.hid hw1
  have HDONE := Lib.hid (show ∀ v' W', RB w1 (bytesT (.mk k0 n0 s l)) v' W' → W'.ownsRow w.heap.size 5 1 v' (bytesT (.mk k0 n0 s l)).length (encs8 (bytesT (.mk k0 n0 s l))) ∧ Below w.heap.size w W' from fun v' W' h => ⟨ownsRow_base h.1 (fun r e => by have := (h.1.lt r e).1; omega), bnext hbb h.2⟩)
  have hst : RB w1 [b8 k0] (.slice (some ⟨w1.heap.size, 0, none⟩) 1 1) (w1.alloc (.cells #[.int .u8 (k0 % 256)] 5)) := ⟨World.ownsRow_lit (base := w1.heap.size) (e := 5) (size := 1) w1 #[.int .u8 (k0 % 256)] 1 (Nat.le_refl _) (by unfold maxLen; omega) rfl, ballocs (Below.refl _ _) _⟩
  obtain ⟨B0, hB0⟩ : ∃ B0, [b8 k0] = B0 := ⟨_, rfl⟩
  have hB1 : B0.length = 1 := by rw [← hB0]; rfl
  have HX0 := Lib.hid (show bytesT (.mk k0 n0 s l) = B0 ++ (midB k0 n0 s ++ (lenB k0 l.length ++ if hasB (.mk k0 n0 s l) = true then bytesL l else [])) from by rw [bytesT_mk, ← hB0]; rfl)
  rw [hB0] at hst
  have HST := Lib.hid hst
  have HN := Lib.hid hN
  have HIH := Lib.hid ih
  have HCL := Lib.hid (show ∀ W, Below w1.heap.size w1 W → Blk W w.heap.size 35 #[.int .i64 k0, .int .i64 n0, .string s, .slice A l.length c] from fun W hb => hg.below hb hg.lt)
  have p0 := hg.cell 0; have p1 := hg.cell 1; have p2 := hg.cell 2; have p3 := hg.cell 3
  clear hl ok hw1 hg hbb hst hN ih hB0
  subst hk
  have HFULL := Lib.hid (show bytesT (.mk 5 n0 s l) = (B0 ++ le8 n0 ++ [b8 (l.length : Int)]) ++ bytesL l from by rw [HX0.out, show midB 5 n0 s = le8 n0 from rfl, show lenB 5 l.length = [b8 (l.length : Int)] from rfl, show hasB (.mk 5 n0 s l) = true from rfl]; simp)
  rw [← HW.out] at p0 p1 p2 p3
  go_enter Try.func24, Try.ntmps24
  go_wp2_with fail
  go_loopw [3, 4, 5] (fun out n i wr => ∃ (j q : Nat) (v9 : Value), j ≤ 8 ∧ i = .int .i64 (j : Int) ∧ n = .int .u64 (q : Int) ∧ (q : Int) = n0 % 18446744073709551616 / (256 : Int) ^ j ∧ out = v9 ∧ RB w1 (B0 ++ (le8 n0).take j) v9 wr) (fun _ _ i _ => 8 - (intOf i).toNat)
  case atStart =>
    refine ⟨0, (n0 % 18446744073709551616).toNat, _, by omega, rfl, ?_, ?_, rfl, by rw [List.take_zero, List.append_nil, HW.out, ← hz1]; exact HST.out⟩
    · rw [Int.toNat_of_nonneg (Int.emod_nonneg _ (by decide))]; first | rfl | simp [IntKind.wrap, IntKind.bits, IntKind.signed]
    · rw [Int.toNat_of_nonneg (Int.emod_nonneg _ (by decide))]; simp
  case round =>
    obtain ⟨j, q, v9, hj, rfl, rfl, hq, rfl, hrb⟩ := hrel
    have hq64 : q < 18446744073709551616 := by
      have h1 := Int.emod_lt_of_pos n0 (b := 18446744073709551616) (by decide)
      have h2 := Int.emod_nonneg n0 (b := 18446744073709551616) (by decide)
      have h3 : n0 % 18446744073709551616 / (256 : Int) ^ j ≤ n0 % 18446744073709551616 := Int.ediv_le_self _ h2
      omega
    obtain ⟨A9, c9, rfl⟩ := hrb.form
    have HRB := Lib.hid hrb
    have HQ := Lib.hid hq
    have hlen : (B0 ++ (le8 n0).take j).length = j + 1 := by rw [List.length_append, hB1, List.length_take, le8_len]; omega
    by_cases hlt : j < 8
    · obtain ⟨v8, w8, hrun, hrb8⟩ := hrb.one (b8 (q : Int)) (by omega)
      have HRUN := Lib.hid hrun
      have HRB8 := Lib.hid (show RB w1 (B0 ++ (le8 n0).take (j + 1)) v8 w8 from by rw [le8_at n0 hlt, ← List.append_assoc, ← HQ.out]; exact hrb8)
      clear hrun hrb8 hrb hq
      rw [hlen] at HRUN ⊢
      go_wp2_with (first | (at_builtin; refine wpList_append_run (.tmp 26) (.tmp 29) 23 _ _ _ HRUN.out rfl rfl rfl rfl ?_) | fail)
      go_roundw
      case rel =>
        refine ⟨j + 1, q / 256, v8, by omega, by go_num, by first | rfl | simp, ?_, rfl, HRB8.out⟩
        rw [Int.natCast_ediv, HQ.out, Int.ediv_ediv_of_nonneg (Int.pow_nonneg (by decide)), Int.pow_succ]; rfl
      case measure => simp [intOf]; omega
    · obtain rfl : j = 8 := by omega
      rw [hlen]
      rw [List.take_of_length_le (by rw [le8_len]; omega)] at HRB hlen
      clear hrb hq
      have hl9 : (B0 ++ le8 n0).length = 9 := by simp [le8_len, hB1]
      obtain ⟨vl, wl, hrunl, hrbl⟩ := HRB.out.one (b8 (l.length : Int)) (by rw [hl9]; omega)
      have HRBL := Lib.hid hrbl
      skip
      try rw [hl9] at hrunl
      simp only [World.size_alloc, Int.reduceMod, b8_val] at hrunl
      have HRUNL := Lib.hid hrunl
      obtain ⟨x0, x1, x2, x3, _, _, _, _⟩ := (HCL.out _ hrbl.2).four
      obtain ⟨AL, cL, rfl⟩ := hrbl.form
      obtain ⟨y0, y1, y2, y3, _, _, _, _⟩ := (HCL.out _ HRB.out.2).four
      have hlL : (B0 ++ le8 n0 ++ [b8 (l.length : Int)]).length = 9 + 1 := by rw [List.length_append, hl9]; rfl
      rw [hlL] at HRUNL HRBL
      clear hrbl hrunl
      skip
      go_wp2_with (first | (at_builtin; refine wpList_append_run (o := ⟨some 60, _, _, _, _, _⟩) (.tmp 54) (.tmp 59) 23 _ _ _ HRUNL.out rfl rfl rfl rfl ?_) | fail)
      go_loopw [3, 6] (fun out i wr => ∃ (j : Nat) (v9 : Value), j ≤ l.length ∧ i = .int .i64 (j : Int) ∧ out = v9 ∧ RB w1 ((B0 ++ le8 n0 ++ [b8 (l.length : Int)]) ++ bytesL (l.take j)) v9 wr) (fun _ i _ => l.length - (intOf i).toNat)
      case atStart => exact ⟨0, _, Nat.zero_le _, rfl, rfl, by rw [List.take_zero, bytesL_nil, List.append_nil]; exact HRBL.out⟩
      case round =>
        obtain ⟨j, v9, hj, rfl, rfl, hrb⟩ := hrel
        obtain ⟨x0, x1, x2, x3, _, _, _, _⟩ := (HCL.out _ hrb.2).four
        obtain ⟨A9, c9, rfl⟩ := hrb.form
        have HRBP := Lib.hid hrb
        by_cases hlt : j < l.length
        · obtain ⟨u, hu⟩ : ∃ u, l[j]? = some u := ⟨_, List.getElem?_eq_getElem hlt⟩
          obtain ⟨b, o, A1, c1, rfl, hb1, d0, d1, d2, d3, hta, _⟩ := (HL.out.later hrb.2).at_ hu
          have hts := bytesL_take_succ hu
          have hle : ((B0 ++ le8 n0 ++ [b8 (l.length : Int)]) ++ bytesL (l.take (j + 1))).length ≤ 1099511627776 := by
            have h1 := HN.out
            rw [HFULL.out] at h1
            have h2 : bytesL l = bytesL (l.take (j + 1)) ++ bytesL (l.drop (j + 1)) := by rw [← bytesL_append, List.take_append_drop]
            rw [h2] at h1
            simp only [List.length_append] at h1 ⊢
            omega
          have hlu : ((B0 ++ le8 n0 ++ [b8 (l.length : Int)]) ++ bytesL (l.take j)).length + (bytesT u).length ≤ 1099511627776 := by
            rw [hts] at hle
            simp only [List.length_append] at hle ⊢
            omega
          have HC := Lib.hid (HIH.out u (List.mem_of_getElem? hu) (by omega) _ wr hta)
          have HTS := Lib.hid hts
          obtain ⟨m9, hm9⟩ : ∃ m, ((B0 ++ le8 n0 ++ [b8 (l.length : Int)]) ++ bytesL (l.take j)).length = m := ⟨_, rfl⟩
          rw [hm9] at hlu ⊢
          have HM9 := Lib.hid hm9
          clear hta hu hts hle hrb hm9
          go_wp2_with fail
          refine HC.out.mono ?_
          rintro e w8 ⟨v8, rfl, hr8, hb8⟩
          obtain ⟨A8, c8, rfl, _⟩ := ownsRow_form hr8
          have hrb8 := HRBP.out.below hb8
          obtain ⟨v7, w7, hrun, hrb7⟩ := hrb8.more A8 c8 (bytesT u) (Reads.of_own hr8) (by rw [HM9.out]; exact hlu)
          rw [HM9.out] at hrun
          rw [List.append_assoc, ← HTS.out] at hrb7
          have HRB7 := Lib.hid hrb7
          have HRUN := Lib.hid hrun
          clear hrun hrb7 hrb8 hr8 hb8
          go_wp2_with (first | (at_builtin; refine wpList_append_run (o := ⟨some 88, _, _, _, _, _⟩) (.tmp 81) (.tmp 87) 23 _ _ _ HRUN.out rfl rfl rfl rfl ?_) | fail)
          go_roundw
          case rel => exact ⟨j + 1, v7, by omega, by go_num, rfl, HRB7.out⟩
          case measure => simp [intOf]; omega
        · obtain rfl : j = l.length := by omega
          rw [List.take_length, ← HFULL.out] at HRBP ⊢
          have hdx := HDONE.out _ _ HRBP.out
          obtain ⟨m9, hm9⟩ : ∃ m, (bytesT (.mk 5 n0 s l)).length = m := ⟨_, rfl⟩
          rw [hm9] at hdx ⊢
          have HDY := Lib.hid hdx
          have HM9 := Lib.hid hm9
          clear hdx hrb hm9 HRBP
          go_wp2_with fail
          go_ret
          rw [HM9.out]
          exact ⟨_, rfl, HDY.out⟩
end Go.Proofs.Ytbpdaoedmjpdpaa.Hs
