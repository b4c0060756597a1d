/- The law FixSums returns true for every input: the total is the sum over who fixes, and the last one is told. (Printed by wip/bin/gen_fixsums.py.) -/
import Derived.Test.YtbldebjdgenfdaaFixKnown
import Derived.Test.YtbldebjdgenfdaaFixSumP
import Derived.Test.YtbldebjdgenfdaaPick
import Derived.Test.YtbldebjdgenfdaaOpenPairs
namespace Go.Proofs.Ytbldebjdgenfdaa.FixSums
open Go.RowKit K Fx
open Go.ChangeShapes Go.WideShapes Go.ChangeAt
set_option linter.unusedVariables false
set_option linter.unusedSimpArgs false

theorem stMore {B0 : Nat} {w0 w : World} {g n n' : Nat} {L : List Int} (h : St B0 w0 g n L w) (hn : n ≤ n') : St B0 w0 g n' L w := by
  obtain ⟨h1, h2, F, hT, hF⟩ := h
  exact ⟨h1, h2, F, hT.more hn, hF⟩
/-- Behind a round: the count's list, of numbers from 0 to 3, no longer than the rounds. -/
def Rel (B0 : Nat) (w0 : World) (g k : Nat) (w : World) : Prop := ∃ L : List Int, St B0 w0 g k L w ∧ L.length ≤ k ∧ ∀ x ∈ L, 0 ≤ x ∧ x < 4
theorem less_mem {L : List Int} {p : Int} {m : Nat} {x : Int} (h : x ∈ less L p m) : x ∈ L := by
  have h1 := cnt_pos.2 h
  rw [cnt_less] at h1
  apply cnt_pos.1
  by_cases e : x = p
  · rw [if_pos e] at h1; subst e; omega
  · rw [if_neg e] at h1; exact h1
def actP (p : Int) : Int := pickN p 4
def actK (p : Int) : Int := pickN p 3

set_option maxRecDepth 100000 in
set_option maxHeartbeats 16000000 in
theorem walk (A : Option Addr) (c : Nat) (xs : List (Int × Int)) (w : World) (hx : Pairs w w.heap.size A xs) (hl : xs.length ≤ maxLen) :
    Calls Try.prog 6 #[.slice A xs.length c] w fun e w' => e = .returned (.bool true) ∧ Below w.heap.size w w' := by
  by_cases h60 : 60 < xs.length
  · unfold maxLen at hl
    go_enter Try.func6, Try.ntmps6
    go_wp2_with (first
      | (go_at_call 5; refine (FixKnown.walk _).mono ?_; rintro e w1 ⟨rfl, hb1⟩)
      | (go_at_call 7; refine (new_any _).mono ?_; rintro e w2 ⟨g, rfl, hT, hb⟩; have hb2 := hb1.trans (hb.mono hb1.size); clear hT hb hb1))
    go_ret
    exact ⟨ret1_b rfl, hb2⟩
  · have h60' : xs.length ≤ 60 := by omega
    have HX := Lib.hid hx
    clear h60 hl hx
    go_enter Try.func6, Try.ntmps6
    go_wp2_with (first
      | (go_at_call 5; refine (FixKnown.walk _).mono ?_; rintro e w1 ⟨rfl, hb1⟩)
      | (go_at_call 7; refine (new_any _).mono ?_; rintro e w2 ⟨g, rfl, hT, hb⟩; have HS := Lib.hid (St.made hb1 hb1.size hT hb); clear hT hb hb1))
    go_loopw [5] (fun i wr => ∃ k : Nat, k ≤ xs.length ∧ i = .int .i64 (k : Int) ∧ Rel w.heap.size w g k wr) (fun i _ => xs.length - (intOf i).toNat)
    case atStart => exact ⟨0, Nat.zero_le _, rfl, [], HS.out, by simp, fun x h => by simp at h⟩
    case round =>
      obtain ⟨k, hk, rfl, L, hS, hLk, hL4⟩ := hrel
      have HL4 := Lib.hid hL4
      have HS1 := Lib.hid hS
      clear HS hS hL4
      by_cases hlt : k < xs.length
      · obtain ⟨bA, oA, hA, had, h1, h2, wf1, wf2⟩ := HX.out k xs[k] (List.getElem?_eq_getElem hlt)
        obtain ⟨p, hp⟩ : ∃ p, xs[k] = p := ⟨_, rfl⟩
        rw [hp] at h1 h2 wf1 wf2
        obtain ⟨kd, pd⟩ := p
        simp only at h1 h2 wf1 wf2
        have hbel := HS1.out.1
        have d1 := (hbel.cell (p := ⟨bA, oA + k * 2, none⟩) had).trans h1
        have d2 := (hbel.cell (p := ⟨bA, oA + k * 2 + 1, none⟩) had).trans h2
        have P1 := pickN_range (x := pd) (n := 4) (by omega)
        have P2 := pickN_range (x := kd) (n := 3) (by omega)
        obtain ⟨y, hy⟩ : ∃ y, pickN pd 4 = y := ⟨_, rfl⟩
        obtain ⟨q, hq⟩ : ∃ q, pickN kd 3 = q := ⟨_, rfl⟩
        have HP1 := Lib.hid (fun w' => hy ▸ pick_any pd 4 wf2 (by decide) w')
        have HP2 := Lib.hid (fun w' => hq ▸ pick_any kd 3 wf1 (by decide) w')
        rw [hy] at P1
        rw [hq] at P2
        obtain ⟨y0, y3⟩ := P1
        have wfy : (Lit.int .i64 y).wf = true := WalkArith.wf_i64 (by omega)
        subst hA
        obtain ⟨t, ht⟩ : ∃ t : Int, (L.length : Int) = t := ⟨_, rfl⟩
        have t0 : 0 ≤ t := by omega
        have t9 : t ≤ 60 := by omega
        have HT := Lib.hid (total_st HS1.out t ht)
        have HTL := Lib.hid ht
        have hLn : L.length ≤ 60 := by omega
        have q3 : q = 0 ∨ q = 1 ∨ q = 2 := by omega
        clear hp hy hq wf1 wf2 h1 h2 P2 hbel ht
        have HY := Lib.hid wfy
        clear wfy
        rcases q3 with rfl | rfl | rfl
        · go_wp2_with fail
          refine (HP1.out _).mono ?_
          rintro e w3 ⟨rfl, rfl⟩
          go_wp2_with fail
          refine HT.out.mono ?_
          rintro e w3 ⟨rfl, rfl⟩
          go_wp2_with fail
          refine (HP2.out _).mono ?_
          rintro e w3 ⟨rfl, rfl⟩
          go_wp2_with fail
          refine (add_lit HS1.out y y0 (by omega) (by omega) (by omega)).mono ?_
          rintro e w5 ⟨rfl, h5⟩
          obtain ⟨L5, hL5⟩ : ∃ L5, L ++ [y] = L5 := ⟨_, rfl⟩
          rw [hL5] at h5
          have HS5 := Lib.hid h5
          have hl5 : L5.length = L.length + 1 := by rw [← hL5]; simp
          have HB5 := Lib.hid (show ∀ x ∈ L5, 0 ≤ x ∧ x < 4 from fun x hx => by
            rw [← hL5] at hx
            rcases List.mem_append.1 hx with h | h
            · exact HL4.out x h
            · simp at h; subst h; exact ⟨y0, y3⟩)
          obtain ⟨t5, ht5⟩ : ∃ t5 : Int, (L5.length : Int) = t5 := ⟨_, rfl⟩
          have HT5 := Lib.hid ht5
          have f5 : t5 = t + 1 := by have := HTL.out; omega
          have hl9 : L5.length ≤ 61 := by omega
          have hlk : L5.length ≤ k + 1 := by omega
          have hfin : (t5 == 0) = false := by simp; omega
          clear h5 hL5 ht5 hl5 HL4 HS1 HP1 HP2 HT d1 d2
          go_wp2_with fail
          refine (holders_st HS5.out (by omega)).mono ?_
          rintro e w6 ⟨v6, rfl, hR6, hb6⟩
          obtain ⟨A6, c6, rfl, _, _⟩ := ownsRow_form hR6
          have HS6 := Lib.hid (HS5.out.grown hb6)
          have HR6 := Lib.hid hR6
          have hhl : (hold L5).length ≤ 61 := by have := hold_length L5; omega
          have HTL6 := Lib.hid (fun j => total_st (HS6.out.drewN j) t5 HT5.out)
          clear hR6 hb6
          go_wp2_with fail
          go_loopw [13, 15] (fun s i wr => ∃ k2 : Nat, k2 ≤ (hold L5).length ∧ i = .int .i64 (k2 : Int) ∧ s = .int .i64 (S (cnt L5) ((hold L5).take k2) : Int) ∧ ∃ d, wr = w6.drewN d) (fun _ i _ => (hold L5).length - (intOf i).toNat)
          case atStart => exact ⟨0, Nat.zero_le _, rfl, rfl, 0, rfl⟩
          case round =>
            obtain ⟨k2, hk2, rfl, rfl, dr, rfl⟩ := hrel
            by_cases hlt2 : k2 < (hold L5).length
            · obtain ⟨g6, c7, he7, _, _, _, _, hc7⟩ := ownsRow_at HR6.out hlt2
              injection he7 with e1 e2 e3
              subst e1 e3
              clear e2
              obtain ⟨x2, hx2⟩ : ∃ x2, (hold L5)[k2]? = some x2 := ⟨_, List.getElem?_eq_getElem hlt2⟩
              have cx : w6.cell? ⟨g6, k2, none⟩ = some (.int .i64 x2) := hc7 k2 _ (by rw [List.getElem?_map, hx2]; rfl)
              have hxb := HB5.out x2 ((hold_mem L5 x2).1 (List.mem_of_getElem? hx2))
              obtain ⟨m2, hm2⟩ : ∃ m2 : Int, (cnt L5 x2 : Int) = m2 := ⟨_, rfl⟩
              have hm3 : 1 ≤ m2 := by have := hold_cnt hx2; omega
              have hm4 : m2 ≤ 61 := by have := cnt_le L5 x2; omega
              obtain ⟨z, hz⟩ : ∃ z : Int, (S (cnt L5) ((hold L5).take k2) : Int) = z := ⟨_, rfl⟩
              have hz0 : 0 ≤ z := by omega
              have hz1 : z ≤ 61 := by have := S_take_le (cnt L5) (hold L5) k2; have := S_hold L5; omega
              have HOf := Lib.hid (of_st (HS6.out.drewN dr) x2 (WalkArith.wf_i64 (by omega)) m2 hm2)
              have HZ := Lib.hid (show (S (cnt L5) ((hold L5).take (k2 + 1)) : Int) = z + m2 from by rw [S_take_succ _ hx2]; omega)
              rw [hz]
              cases k2 with
              | zero =>
                have hg1 : decide (m2 < 1) = false := by simp; omega
                have hg2 : decide ((0 : Int) < 0) = false := by simp
                clear hz hm2 hc7 hx2
                rw [show ((0 : Nat) : Int) = 0 from rfl]
                go_wp2_with (first | (go_at_call 9; refine HOf.out.mono ?_; rintro e w7 ⟨rfl, rfl⟩) | fail)
                go_quiet (fail)
                go_wp2_with fail
                go_roundw
                case rel => exact ⟨1, by omega, by go_num, by rw [HZ.out], _, rfl⟩
                case measure => simp [intOf]; omega
              | succ j2 =>
                obtain ⟨x1, hx1⟩ : ∃ x1, (hold L5)[j2]? = some x1 := ⟨_, List.getElem?_eq_getElem (by omega)⟩
                have cx1 : w6.cell? ⟨g6, j2, none⟩ = some (.int .i64 x1) := hc7 j2 _ (by rw [List.getElem?_map, hx1]; rfl)
                have hxlt := hold_step hx1 hx2
                have hg1 : decide (m2 < 1) = false := by simp; omega
                have hg2 : decide ((0 : Int) < (j2 : Int) + 1) = true := decide_eq_true (by omega)
                have hg3 : decide (x2 ≤ x1) = false := by simp; omega
                have hj0 : (0 : Int) ≤ (j2 : Int) := by omega
                have hj2 : (j2 : Int) < ((hold L5).length : Int) := by omega
                have hj3 : (j2 : Int) + 1 < ((hold L5).length : Int) := by omega
                clear hz hm2 hc7 hx2 hx1
                rw [show ((j2 + 1 : Nat) : Int) = (j2 : Int) + 1 from by omega]
                go_wp2_with (first | (go_at_call 9; refine HOf.out.mono ?_; rintro e w7 ⟨rfl, rfl⟩) | fail)
                go_quiet (fail)
                go_wp2_with fail
                go_roundw
                case rel => exact ⟨j2 + 2, by omega, by go_num, by rw [HZ.out], _, rfl⟩
                case measure => simp [intOf]; omega
            · obtain rfl : k2 = (hold L5).length := by omega
              have hz : (S (cnt L5) ((hold L5).take (hold L5).length) : Int) = t5 := by rw [List.take_length, S_hold]; exact HT5.out
              rw [hz]
              clear hz
              go_wp2_with (first | (go_at_call 11; refine (HTL6.out _).mono ?_; rintro e w7 ⟨rfl, rfl⟩) | fail)
              all_goals exact ⟨⟨k + 1, by omega, by go_num, L5, HS6.out.drewN dr, hlk, HB5.out⟩, by simp [intOf] <;> omega⟩
        · go_wp2_with fail
          refine (HP1.out _).mono ?_
          rintro e w3 ⟨rfl, rfl⟩
          go_wp2_with fail
          refine HT.out.mono ?_
          rintro e w3 ⟨rfl, rfl⟩
          go_wp2_with fail
          refine (HP2.out _).mono ?_
          rintro e w3 ⟨rfl, rfl⟩
          go_wp2_with fail
          have hcl := cnt_le L y
          by_cases hc : cnt L y = 0
          · have hb : rlB L y = false := by unfold rlB; simp [hc]
            have hE : rlE L y = 9 := by unfold rlE; rw [if_pos hc]
            have hl : less L y 1 = L := less_absent (fun hm => by have := cnt_pos.2 hm; omega) 1
            refine (release_st HS1.out y HY.out (by omega) (by omega) false 9 L hb hE hl).mono ?_
            rintro e w5 ⟨rfl, h5⟩
            have HS5 := Lib.hid h5
            have HB5 := HL4
            have HT5 := HTL
            have HTT := Lib.hid (total_st h5 t HTL.out)
            have hne : (t == t - 1) = false := by simp; omega
            have hl9 : L.length ≤ 61 := by omega
            have hlk : L.length ≤ k + 1 := by omega
            clear h5 hb hE hl hc HL4 HS1 HP1 HP2 HT d1 d2 hcl
            by_cases ht0 : 0 < t
            · have hfin : (t == 0) = false := by simp; omega
              go_wp2_with fail
              refine HTT.out.mono ?_
              rintro e w5' ⟨rfl, rfl⟩
              go_wp2_with fail
              refine (holders_st HS5.out (by omega)).mono ?_
              rintro e w6 ⟨v6, rfl, hR6, hb6⟩
              obtain ⟨A6, c6, rfl, _, _⟩ := ownsRow_form hR6
              have HS6 := Lib.hid (HS5.out.grown hb6)
              have HR6 := Lib.hid hR6
              have hhl : (hold L).length ≤ 61 := by have := hold_length L; omega
              have HTL6 := Lib.hid (fun j => total_st (HS6.out.drewN j) t HT5.out)
              clear hR6 hb6
              go_wp2_with fail
              go_loopw [13, 15] (fun s i wr => ∃ k2 : Nat, k2 ≤ (hold L).length ∧ i = .int .i64 (k2 : Int) ∧ s = .int .i64 (S (cnt L) ((hold L).take k2) : Int) ∧ ∃ d, wr = w6.drewN d) (fun _ i _ => (hold L).length - (intOf i).toNat)
              case atStart => exact ⟨0, Nat.zero_le _, rfl, rfl, 0, rfl⟩
              case round =>
                obtain ⟨k2, hk2, rfl, rfl, dr, rfl⟩ := hrel
                by_cases hlt2 : k2 < (hold L).length
                · obtain ⟨g6, c7, he7, _, _, _, _, hc7⟩ := ownsRow_at HR6.out hlt2
                  injection he7 with e1 e2 e3
                  subst e1 e3
                  clear e2
                  obtain ⟨x2, hx2⟩ : ∃ x2, (hold L)[k2]? = some x2 := ⟨_, List.getElem?_eq_getElem hlt2⟩
                  have cx : w6.cell? ⟨g6, k2, none⟩ = some (.int .i64 x2) := hc7 k2 _ (by rw [List.getElem?_map, hx2]; rfl)
                  have hxb := HB5.out x2 ((hold_mem L x2).1 (List.mem_of_getElem? hx2))
                  obtain ⟨m2, hm2⟩ : ∃ m2 : Int, (cnt L x2 : Int) = m2 := ⟨_, rfl⟩
                  have hm3 : 1 ≤ m2 := by have := hold_cnt hx2; omega
                  have hm4 : m2 ≤ 61 := by have := cnt_le L x2; omega
                  obtain ⟨z, hz⟩ : ∃ z : Int, (S (cnt L) ((hold L).take k2) : Int) = z := ⟨_, rfl⟩
                  have hz0 : 0 ≤ z := by omega
                  have hz1 : z ≤ 61 := by have := S_take_le (cnt L) (hold L) k2; have := S_hold L; omega
                  have HOf := Lib.hid (of_st (HS6.out.drewN dr) x2 (WalkArith.wf_i64 (by omega)) m2 hm2)
                  have HZ := Lib.hid (show (S (cnt L) ((hold L).take (k2 + 1)) : Int) = z + m2 from by rw [S_take_succ _ hx2]; omega)
                  rw [hz]
                  cases k2 with
                  | zero =>
                    have hg1 : decide (m2 < 1) = false := by simp; omega
                    have hg2 : decide ((0 : Int) < 0) = false := by simp
                    clear hz hm2 hc7 hx2
                    rw [show ((0 : Nat) : Int) = 0 from rfl]
                    go_wp2_with (first | (go_at_call 9; refine HOf.out.mono ?_; rintro e w7 ⟨rfl, rfl⟩) | fail)
                    go_quiet (fail)
                    go_wp2_with fail
                    go_roundw
                    case rel => exact ⟨1, by omega, by go_num, by rw [HZ.out], _, rfl⟩
                    case measure => simp [intOf]; omega
                  | succ j2 =>
                    obtain ⟨x1, hx1⟩ : ∃ x1, (hold L)[j2]? = some x1 := ⟨_, List.getElem?_eq_getElem (by omega)⟩
                    have cx1 : w6.cell? ⟨g6, j2, none⟩ = some (.int .i64 x1) := hc7 j2 _ (by rw [List.getElem?_map, hx1]; rfl)
                    have hxlt := hold_step hx1 hx2
                    have hg1 : decide (m2 < 1) = false := by simp; omega
                    have hg2 : decide ((0 : Int) < (j2 : Int) + 1) = true := decide_eq_true (by omega)
                    have hg3 : decide (x2 ≤ x1) = false := by simp; omega
                    have hj0 : (0 : Int) ≤ (j2 : Int) := by omega
                    have hj2 : (j2 : Int) < ((hold L).length : Int) := by omega
                    have hj3 : (j2 : Int) + 1 < ((hold L).length : Int) := by omega
                    clear hz hm2 hc7 hx2 hx1
                    rw [show ((j2 + 1 : Nat) : Int) = (j2 : Int) + 1 from by omega]
                    go_wp2_with (first | (go_at_call 9; refine HOf.out.mono ?_; rintro e w7 ⟨rfl, rfl⟩) | fail)
                    go_quiet (fail)
                    go_wp2_with fail
                    go_roundw
                    case rel => exact ⟨j2 + 2, by omega, by go_num, by rw [HZ.out], _, rfl⟩
                    case measure => simp [intOf]; omega
                · obtain rfl : k2 = (hold L).length := by omega
                  have hz : (S (cnt L) ((hold L).take (hold L).length) : Int) = t := by rw [List.take_length, S_hold]; exact HT5.out
                  rw [hz]
                  clear hz
                  go_wp2_with (first | (go_at_call 11; refine (HTL6.out _).mono ?_; rintro e w7 ⟨rfl, rfl⟩) | fail)
                  all_goals exact ⟨⟨k + 1, by omega, by go_num, L, HS6.out.drewN dr, hlk, HB5.out⟩, by simp [intOf] <;> omega⟩
            · have hfin : t ≤ 0 := by omega
              go_wp2_with fail
              refine HTT.out.mono ?_
              rintro e w5' ⟨rfl, rfl⟩
              go_wp2_with fail
              refine (holders_st HS5.out (by omega)).mono ?_
              rintro e w6 ⟨v6, rfl, hR6, hb6⟩
              obtain ⟨A6, c6, rfl, _, _⟩ := ownsRow_form hR6
              have HS6 := Lib.hid (HS5.out.grown hb6)
              have HR6 := Lib.hid hR6
              have hhl : (hold L).length ≤ 61 := by have := hold_length L; omega
              have HTL6 := Lib.hid (fun j => total_st (HS6.out.drewN j) t HT5.out)
              clear hR6 hb6
              go_wp2_with fail
              go_loopw [13, 15] (fun s i wr => ∃ k2 : Nat, k2 ≤ (hold L).length ∧ i = .int .i64 (k2 : Int) ∧ s = .int .i64 (S (cnt L) ((hold L).take k2) : Int) ∧ ∃ d, wr = w6.drewN d) (fun _ i _ => (hold L).length - (intOf i).toNat)
              case atStart => exact ⟨0, Nat.zero_le _, rfl, rfl, 0, rfl⟩
              case round =>
                obtain ⟨k2, hk2, rfl, rfl, dr, rfl⟩ := hrel
                by_cases hlt2 : k2 < (hold L).length
                · obtain ⟨g6, c7, he7, _, _, _, _, hc7⟩ := ownsRow_at HR6.out hlt2
                  injection he7 with e1 e2 e3
                  subst e1 e3
                  clear e2
                  obtain ⟨x2, hx2⟩ : ∃ x2, (hold L)[k2]? = some x2 := ⟨_, List.getElem?_eq_getElem hlt2⟩
                  have cx : w6.cell? ⟨g6, k2, none⟩ = some (.int .i64 x2) := hc7 k2 _ (by rw [List.getElem?_map, hx2]; rfl)
                  have hxb := HB5.out x2 ((hold_mem L x2).1 (List.mem_of_getElem? hx2))
                  obtain ⟨m2, hm2⟩ : ∃ m2 : Int, (cnt L x2 : Int) = m2 := ⟨_, rfl⟩
                  have hm3 : 1 ≤ m2 := by have := hold_cnt hx2; omega
                  have hm4 : m2 ≤ 61 := by have := cnt_le L x2; omega
                  obtain ⟨z, hz⟩ : ∃ z : Int, (S (cnt L) ((hold L).take k2) : Int) = z := ⟨_, rfl⟩
                  have hz0 : 0 ≤ z := by omega
                  have hz1 : z ≤ 61 := by have := S_take_le (cnt L) (hold L) k2; have := S_hold L; omega
                  have HOf := Lib.hid (of_st (HS6.out.drewN dr) x2 (WalkArith.wf_i64 (by omega)) m2 hm2)
                  have HZ := Lib.hid (show (S (cnt L) ((hold L).take (k2 + 1)) : Int) = z + m2 from by rw [S_take_succ _ hx2]; omega)
                  rw [hz]
                  cases k2 with
                  | zero =>
                    have hg1 : decide (m2 < 1) = false := by simp; omega
                    have hg2 : decide ((0 : Int) < 0) = false := by simp
                    clear hz hm2 hc7 hx2
                    rw [show ((0 : Nat) : Int) = 0 from rfl]
                    go_wp2_with (first | (go_at_call 9; refine HOf.out.mono ?_; rintro e w7 ⟨rfl, rfl⟩) | fail)
                    go_quiet (fail)
                    go_wp2_with fail
                    go_roundw
                    case rel => exact ⟨1, by omega, by go_num, by rw [HZ.out], _, rfl⟩
                    case measure => simp [intOf]; omega
                  | succ j2 =>
                    obtain ⟨x1, hx1⟩ : ∃ x1, (hold L)[j2]? = some x1 := ⟨_, List.getElem?_eq_getElem (by omega)⟩
                    have cx1 : w6.cell? ⟨g6, j2, none⟩ = some (.int .i64 x1) := hc7 j2 _ (by rw [List.getElem?_map, hx1]; rfl)
                    have hxlt := hold_step hx1 hx2
                    have hg1 : decide (m2 < 1) = false := by simp; omega
                    have hg2 : decide ((0 : Int) < (j2 : Int) + 1) = true := decide_eq_true (by omega)
                    have hg3 : decide (x2 ≤ x1) = false := by simp; omega
                    have hj0 : (0 : Int) ≤ (j2 : Int) := by omega
                    have hj2 : (j2 : Int) < ((hold L).length : Int) := by omega
                    have hj3 : (j2 : Int) + 1 < ((hold L).length : Int) := by omega
                    clear hz hm2 hc7 hx2 hx1
                    rw [show ((j2 + 1 : Nat) : Int) = (j2 : Int) + 1 from by omega]
                    go_wp2_with (first | (go_at_call 9; refine HOf.out.mono ?_; rintro e w7 ⟨rfl, rfl⟩) | fail)
                    go_quiet (fail)
                    go_wp2_with fail
                    go_roundw
                    case rel => exact ⟨j2 + 2, by omega, by go_num, by rw [HZ.out], _, rfl⟩
                    case measure => simp [intOf]; omega
                · obtain rfl : k2 = (hold L).length := by omega
                  have hz : (S (cnt L) ((hold L).take (hold L).length) : Int) = t := by rw [List.take_length, S_hold]; exact HT5.out
                  rw [hz]
                  clear hz
                  go_wp2_with (first | (go_at_call 11; refine (HTL6.out _).mono ?_; rintro e w7 ⟨rfl, rfl⟩) | fail)
                  all_goals exact ⟨⟨k + 1, by omega, by go_num, L, HS6.out.drewN dr, hlk, HB5.out⟩, by simp [intOf] <;> omega⟩
          · have hE : rlE L y = 0 := by unfold rlE; rw [if_neg hc]
            have hlen := less_length L y 1 (by omega)
            obtain ⟨L5, hL5⟩ : ∃ L5, less L y 1 = L5 := ⟨_, rfl⟩
            rw [hL5] at hlen
            have HB5 := Lib.hid (show ∀ x ∈ L5, 0 ≤ x ∧ x < 4 from fun x hx => HL4.out x (less_mem (hL5 ▸ hx)))
            have HT5 := Lib.hid (show (L5.length : Int) = t - 1 from by have := HTL.out; omega)
            have ht0 : 0 < t := by have := HTL.out; omega
            have hl9 : L5.length ≤ 61 := by omega
            have hlk : L5.length ≤ k + 1 := by omega
            by_cases hb1 : L.length = 1
            · have hb : rlB L y = true := by unfold rlB; simp [hb1]; omega
              have hfin : (t - 1 == 0) = true := by have := HTL.out; simp; omega
              refine (release_st HS1.out y HY.out (by omega) (by omega) true 0 L5 hb hE hL5).mono ?_
              rintro e w5 ⟨rfl, h5⟩
              have HS5 := Lib.hid h5
              have HTT := Lib.hid (total_st h5 (t - 1) HT5.out)
              clear h5 hb hE hL5 hc HL4 HS1 HP1 HP2 HT d1 d2 hcl hlen hb1
              go_wp2_with fail
              refine HTT.out.mono ?_
              rintro e w5' ⟨rfl, rfl⟩
              go_wp2_with fail
              refine (holders_st HS5.out (by omega)).mono ?_
              rintro e w6 ⟨v6, rfl, hR6, hb6⟩
              obtain ⟨A6, c6, rfl, _, _⟩ := ownsRow_form hR6
              have HS6 := Lib.hid (HS5.out.grown hb6)
              have HR6 := Lib.hid hR6
              have hhl : (hold L5).length ≤ 61 := by have := hold_length L5; omega
              have HTL6 := Lib.hid (fun j => total_st (HS6.out.drewN j) (t - 1) HT5.out)
              clear hR6 hb6
              go_wp2_with fail
              go_loopw [13, 15] (fun s i wr => ∃ k2 : Nat, k2 ≤ (hold L5).length ∧ i = .int .i64 (k2 : Int) ∧ s = .int .i64 (S (cnt L5) ((hold L5).take k2) : Int) ∧ ∃ d, wr = w6.drewN d) (fun _ i _ => (hold L5).length - (intOf i).toNat)
              case atStart => exact ⟨0, Nat.zero_le _, rfl, rfl, 0, rfl⟩
              case round =>
                obtain ⟨k2, hk2, rfl, rfl, dr, rfl⟩ := hrel
                by_cases hlt2 : k2 < (hold L5).length
                · obtain ⟨g6, c7, he7, _, _, _, _, hc7⟩ := ownsRow_at HR6.out hlt2
                  injection he7 with e1 e2 e3
                  subst e1 e3
                  clear e2
                  obtain ⟨x2, hx2⟩ : ∃ x2, (hold L5)[k2]? = some x2 := ⟨_, List.getElem?_eq_getElem hlt2⟩
                  have cx : w6.cell? ⟨g6, k2, none⟩ = some (.int .i64 x2) := hc7 k2 _ (by rw [List.getElem?_map, hx2]; rfl)
                  have hxb := HB5.out x2 ((hold_mem L5 x2).1 (List.mem_of_getElem? hx2))
                  obtain ⟨m2, hm2⟩ : ∃ m2 : Int, (cnt L5 x2 : Int) = m2 := ⟨_, rfl⟩
                  have hm3 : 1 ≤ m2 := by have := hold_cnt hx2; omega
                  have hm4 : m2 ≤ 61 := by have := cnt_le L5 x2; omega
                  obtain ⟨z, hz⟩ : ∃ z : Int, (S (cnt L5) ((hold L5).take k2) : Int) = z := ⟨_, rfl⟩
                  have hz0 : 0 ≤ z := by omega
                  have hz1 : z ≤ 61 := by have := S_take_le (cnt L5) (hold L5) k2; have := S_hold L5; omega
                  have HOf := Lib.hid (of_st (HS6.out.drewN dr) x2 (WalkArith.wf_i64 (by omega)) m2 hm2)
                  have HZ := Lib.hid (show (S (cnt L5) ((hold L5).take (k2 + 1)) : Int) = z + m2 from by rw [S_take_succ _ hx2]; omega)
                  rw [hz]
                  cases k2 with
                  | zero =>
                    have hg1 : decide (m2 < 1) = false := by simp; omega
                    have hg2 : decide ((0 : Int) < 0) = false := by simp
                    clear hz hm2 hc7 hx2
                    rw [show ((0 : Nat) : Int) = 0 from rfl]
                    go_wp2_with (first | (go_at_call 9; refine HOf.out.mono ?_; rintro e w7 ⟨rfl, rfl⟩) | fail)
                    go_quiet (fail)
                    go_wp2_with fail
                    go_roundw
                    case rel => exact ⟨1, by omega, by go_num, by rw [HZ.out], _, rfl⟩
                    case measure => simp [intOf]; omega
                  | succ j2 =>
                    obtain ⟨x1, hx1⟩ : ∃ x1, (hold L5)[j2]? = some x1 := ⟨_, List.getElem?_eq_getElem (by omega)⟩
                    have cx1 : w6.cell? ⟨g6, j2, none⟩ = some (.int .i64 x1) := hc7 j2 _ (by rw [List.getElem?_map, hx1]; rfl)
                    have hxlt := hold_step hx1 hx2
                    have hg1 : decide (m2 < 1) = false := by simp; omega
                    have hg2 : decide ((0 : Int) < (j2 : Int) + 1) = true := decide_eq_true (by omega)
                    have hg3 : decide (x2 ≤ x1) = false := by simp; omega
                    have hj0 : (0 : Int) ≤ (j2 : Int) := by omega
                    have hj2 : (j2 : Int) < ((hold L5).length : Int) := by omega
                    have hj3 : (j2 : Int) + 1 < ((hold L5).length : Int) := by omega
                    clear hz hm2 hc7 hx2 hx1
                    rw [show ((j2 + 1 : Nat) : Int) = (j2 : Int) + 1 from by omega]
                    go_wp2_with (first | (go_at_call 9; refine HOf.out.mono ?_; rintro e w7 ⟨rfl, rfl⟩) | fail)
                    go_quiet (fail)
                    go_wp2_with fail
                    go_roundw
                    case rel => exact ⟨j2 + 2, by omega, by go_num, by rw [HZ.out], _, rfl⟩
                    case measure => simp [intOf]; omega
                · obtain rfl : k2 = (hold L5).length := by omega
                  have hz : (S (cnt L5) ((hold L5).take (hold L5).length) : Int) = (t - 1) := by rw [List.take_length, S_hold]; exact HT5.out
                  rw [hz]
                  clear hz
                  go_wp2_with (first | (go_at_call 11; refine (HTL6.out _).mono ?_; rintro e w7 ⟨rfl, rfl⟩) | fail)
                  all_goals exact ⟨⟨k + 1, by omega, by go_num, L5, HS6.out.drewN dr, hlk, HB5.out⟩, by simp [intOf] <;> omega⟩
            · have hb : rlB L y = false := by unfold rlB; simp [hb1]
              have hfin : (t - 1 == 0) = false := by have := HTL.out; simp; omega
              refine (release_st HS1.out y HY.out (by omega) (by omega) false 0 L5 hb hE hL5).mono ?_
              rintro e w5 ⟨rfl, h5⟩
              have HS5 := Lib.hid h5
              have HTT := Lib.hid (total_st h5 (t - 1) HT5.out)
              clear h5 hb hE hL5 hc HL4 HS1 HP1 HP2 HT d1 d2 hcl hlen hb1
              go_wp2_with fail
              refine HTT.out.mono ?_
              rintro e w5' ⟨rfl, rfl⟩
              go_wp2_with fail
              refine (holders_st HS5.out (by omega)).mono ?_
              rintro e w6 ⟨v6, rfl, hR6, hb6⟩
              obtain ⟨A6, c6, rfl, _, _⟩ := ownsRow_form hR6
              have HS6 := Lib.hid (HS5.out.grown hb6)
              have HR6 := Lib.hid hR6
              have hhl : (hold L5).length ≤ 61 := by have := hold_length L5; omega
              have HTL6 := Lib.hid (fun j => total_st (HS6.out.drewN j) (t - 1) HT5.out)
              clear hR6 hb6
              go_wp2_with fail
              go_loopw [13, 15] (fun s i wr => ∃ k2 : Nat, k2 ≤ (hold L5).length ∧ i = .int .i64 (k2 : Int) ∧ s = .int .i64 (S (cnt L5) ((hold L5).take k2) : Int) ∧ ∃ d, wr = w6.drewN d) (fun _ i _ => (hold L5).length - (intOf i).toNat)
              case atStart => exact ⟨0, Nat.zero_le _, rfl, rfl, 0, rfl⟩
              case round =>
                obtain ⟨k2, hk2, rfl, rfl, dr, rfl⟩ := hrel
                by_cases hlt2 : k2 < (hold L5).length
                · obtain ⟨g6, c7, he7, _, _, _, _, hc7⟩ := ownsRow_at HR6.out hlt2
                  injection he7 with e1 e2 e3
                  subst e1 e3
                  clear e2
                  obtain ⟨x2, hx2⟩ : ∃ x2, (hold L5)[k2]? = some x2 := ⟨_, List.getElem?_eq_getElem hlt2⟩
                  have cx : w6.cell? ⟨g6, k2, none⟩ = some (.int .i64 x2) := hc7 k2 _ (by rw [List.getElem?_map, hx2]; rfl)
                  have hxb := HB5.out x2 ((hold_mem L5 x2).1 (List.mem_of_getElem? hx2))
                  obtain ⟨m2, hm2⟩ : ∃ m2 : Int, (cnt L5 x2 : Int) = m2 := ⟨_, rfl⟩
                  have hm3 : 1 ≤ m2 := by have := hold_cnt hx2; omega
                  have hm4 : m2 ≤ 61 := by have := cnt_le L5 x2; omega
                  obtain ⟨z, hz⟩ : ∃ z : Int, (S (cnt L5) ((hold L5).take k2) : Int) = z := ⟨_, rfl⟩
                  have hz0 : 0 ≤ z := by omega
                  have hz1 : z ≤ 61 := by have := S_take_le (cnt L5) (hold L5) k2; have := S_hold L5; omega
                  have HOf := Lib.hid (of_st (HS6.out.drewN dr) x2 (WalkArith.wf_i64 (by omega)) m2 hm2)
                  have HZ := Lib.hid (show (S (cnt L5) ((hold L5).take (k2 + 1)) : Int) = z + m2 from by rw [S_take_succ _ hx2]; omega)
                  rw [hz]
                  cases k2 with
                  | zero =>
                    have hg1 : decide (m2 < 1) = false := by simp; omega
                    have hg2 : decide ((0 : Int) < 0) = false := by simp
                    clear hz hm2 hc7 hx2
                    rw [show ((0 : Nat) : Int) = 0 from rfl]
                    go_wp2_with (first | (go_at_call 9; refine HOf.out.mono ?_; rintro e w7 ⟨rfl, rfl⟩) | fail)
                    go_quiet (fail)
                    go_wp2_with fail
                    go_roundw
                    case rel => exact ⟨1, by omega, by go_num, by rw [HZ.out], _, rfl⟩
                    case measure => simp [intOf]; omega
                  | succ j2 =>
                    obtain ⟨x1, hx1⟩ : ∃ x1, (hold L5)[j2]? = some x1 := ⟨_, List.getElem?_eq_getElem (by omega)⟩
                    have cx1 : w6.cell? ⟨g6, j2, none⟩ = some (.int .i64 x1) := hc7 j2 _ (by rw [List.getElem?_map, hx1]; rfl)
                    have hxlt := hold_step hx1 hx2
                    have hg1 : decide (m2 < 1) = false := by simp; omega
                    have hg2 : decide ((0 : Int) < (j2 : Int) + 1) = true := decide_eq_true (by omega)
                    have hg3 : decide (x2 ≤ x1) = false := by simp; omega
                    have hj0 : (0 : Int) ≤ (j2 : Int) := by omega
                    have hj2 : (j2 : Int) < ((hold L5).length : Int) := by omega
                    have hj3 : (j2 : Int) + 1 < ((hold L5).length : Int) := by omega
                    clear hz hm2 hc7 hx2 hx1
                    rw [show ((j2 + 1 : Nat) : Int) = (j2 : Int) + 1 from by omega]
                    go_wp2_with (first | (go_at_call 9; refine HOf.out.mono ?_; rintro e w7 ⟨rfl, rfl⟩) | fail)
                    go_quiet (fail)
                    go_wp2_with fail
                    go_roundw
                    case rel => exact ⟨j2 + 2, by omega, by go_num, by rw [HZ.out], _, rfl⟩
                    case measure => simp [intOf]; omega
                · obtain rfl : k2 = (hold L5).length := by omega
                  have hz : (S (cnt L5) ((hold L5).take (hold L5).length) : Int) = (t - 1) := by rw [List.take_length, S_hold]; exact HT5.out
                  rw [hz]
                  clear hz
                  go_wp2_with (first | (go_at_call 11; refine (HTL6.out _).mono ?_; rintro e w7 ⟨rfl, rfl⟩) | fail)
                  all_goals exact ⟨⟨k + 1, by omega, by go_num, L5, HS6.out.drewN dr, hlk, HB5.out⟩, by simp [intOf] <;> omega⟩
        · go_wp2_with fail
          refine (HP1.out _).mono ?_
          rintro e w3 ⟨rfl, rfl⟩
          go_wp2_with fail
          refine HT.out.mono ?_
          rintro e w3 ⟨rfl, rfl⟩
          go_wp2_with fail
          refine (HP2.out _).mono ?_
          rintro e w3 ⟨rfl, rfl⟩
          go_wp2_with fail
          have hcl := cnt_le L y
          have hlen := less_length L y (cnt L y) (Nat.le_refl _)
          obtain ⟨L5, hL5⟩ : ∃ L5, less L y (cnt L y) = L5 := ⟨_, rfl⟩
          have hc0 : (cnt L5 y : Int) = 0 := by rw [← hL5, cnt_less, if_pos rfl]; omega
          rw [hL5] at hlen
          obtain ⟨m, hm⟩ : ∃ m : Int, (cnt L y : Int) = m := ⟨_, rfl⟩
          have HB5 := Lib.hid (show ∀ x ∈ L5, 0 ≤ x ∧ x < 4 from fun x hx => HL4.out x (less_mem (hL5 ▸ hx)))
          have HT5 := Lib.hid (show (L5.length : Int) = t - m from by have := HTL.out; omega)
          have hm0 : 0 ≤ m := by omega
          have hm9 : m ≤ 60 := by omega
          have hl9 : L5.length ≤ 61 := by omega
          have hlk : L5.length ≤ k + 1 := by omega
          by_cases hb1 : 0 < cnt L y ∧ L.length = cnt L y
          · have hb : dpB L y = true := by unfold dpB; simp [hb1]
            have ht0 : 0 < t := by have := HTL.out; omega
            have hfin : (t - m == 0) = true := by have := HTL.out; simp; omega
            refine (drop_st HS1.out y HY.out (by omega) m true L5 hm hb hL5).mono ?_
            rintro e w5 ⟨rfl, h5⟩
            have HS5 := Lib.hid (stMore h5 (Nat.le_succ k))
            have HTT := Lib.hid (total_st h5 (t - m) HT5.out)
            have HOO := Lib.hid (of_st h5 y HY.out 0 hc0)
            skip
            clear h5 hb hL5 HL4 HS1 HP1 HP2 HT d1 d2 hcl hlen hb1 hm hc0
            go_wp2_with fail
            refine HTT.out.mono ?_
            rintro e w5' ⟨rfl, rfl⟩
            go_wp2_with fail
            refine HOO.out.mono ?_
            rintro e w5' ⟨rfl, rfl⟩
            go_wp2_with fail
            refine (holders_st HS5.out (by omega)).mono ?_
            rintro e w6 ⟨v6, rfl, hR6, hb6⟩
            obtain ⟨A6, c6, rfl, _, _⟩ := ownsRow_form hR6
            have HS6 := Lib.hid (HS5.out.grown hb6)
            have HR6 := Lib.hid hR6
            have hhl : (hold L5).length ≤ 61 := by have := hold_length L5; omega
            have HTL6 := Lib.hid (fun j => total_st (HS6.out.drewN j) (t - m) HT5.out)
            clear hR6 hb6
            go_wp2_with fail
            go_loopw [13, 15] (fun s i wr => ∃ k2 : Nat, k2 ≤ (hold L5).length ∧ i = .int .i64 (k2 : Int) ∧ s = .int .i64 (S (cnt L5) ((hold L5).take k2) : Int) ∧ ∃ d, wr = w6.drewN d) (fun _ i _ => (hold L5).length - (intOf i).toNat)
            case atStart => exact ⟨0, Nat.zero_le _, rfl, rfl, 0, rfl⟩
            case round =>
              obtain ⟨k2, hk2, rfl, rfl, dr, rfl⟩ := hrel
              by_cases hlt2 : k2 < (hold L5).length
              · obtain ⟨g6, c7, he7, _, _, _, _, hc7⟩ := ownsRow_at HR6.out hlt2
                injection he7 with e1 e2 e3
                subst e1 e3
                clear e2
                obtain ⟨x2, hx2⟩ : ∃ x2, (hold L5)[k2]? = some x2 := ⟨_, List.getElem?_eq_getElem hlt2⟩
                have cx : w6.cell? ⟨g6, k2, none⟩ = some (.int .i64 x2) := hc7 k2 _ (by rw [List.getElem?_map, hx2]; rfl)
                have hxb := HB5.out x2 ((hold_mem L5 x2).1 (List.mem_of_getElem? hx2))
                obtain ⟨m2, hm2⟩ : ∃ m2 : Int, (cnt L5 x2 : Int) = m2 := ⟨_, rfl⟩
                have hm3 : 1 ≤ m2 := by have := hold_cnt hx2; omega
                have hm4 : m2 ≤ 61 := by have := cnt_le L5 x2; omega
                obtain ⟨z, hz⟩ : ∃ z : Int, (S (cnt L5) ((hold L5).take k2) : Int) = z := ⟨_, rfl⟩
                have hz0 : 0 ≤ z := by omega
                have hz1 : z ≤ 61 := by have := S_take_le (cnt L5) (hold L5) k2; have := S_hold L5; omega
                have HOf := Lib.hid (of_st (HS6.out.drewN dr) x2 (WalkArith.wf_i64 (by omega)) m2 hm2)
                have HZ := Lib.hid (show (S (cnt L5) ((hold L5).take (k2 + 1)) : Int) = z + m2 from by rw [S_take_succ _ hx2]; omega)
                rw [hz]
                cases k2 with
                | zero =>
                  have hg1 : decide (m2 < 1) = false := by simp; omega
                  have hg2 : decide ((0 : Int) < 0) = false := by simp
                  clear hz hm2 hc7 hx2
                  rw [show ((0 : Nat) : Int) = 0 from rfl]
                  go_wp2_with (first | (go_at_call 9; refine HOf.out.mono ?_; rintro e w7 ⟨rfl, rfl⟩) | fail)
                  go_quiet (fail)
                  go_wp2_with fail
                  go_roundw
                  case rel => exact ⟨1, by omega, by go_num, by rw [HZ.out], _, rfl⟩
                  case measure => simp [intOf]; omega
                | succ j2 =>
                  obtain ⟨x1, hx1⟩ : ∃ x1, (hold L5)[j2]? = some x1 := ⟨_, List.getElem?_eq_getElem (by omega)⟩
                  have cx1 : w6.cell? ⟨g6, j2, none⟩ = some (.int .i64 x1) := hc7 j2 _ (by rw [List.getElem?_map, hx1]; rfl)
                  have hxlt := hold_step hx1 hx2
                  have hg1 : decide (m2 < 1) = false := by simp; omega
                  have hg2 : decide ((0 : Int) < (j2 : Int) + 1) = true := decide_eq_true (by omega)
                  have hg3 : decide (x2 ≤ x1) = false := by simp; omega
                  have hj0 : (0 : Int) ≤ (j2 : Int) := by omega
                  have hj2 : (j2 : Int) < ((hold L5).length : Int) := by omega
                  have hj3 : (j2 : Int) + 1 < ((hold L5).length : Int) := by omega
                  clear hz hm2 hc7 hx2 hx1
                  rw [show ((j2 + 1 : Nat) : Int) = (j2 : Int) + 1 from by omega]
                  go_wp2_with (first | (go_at_call 9; refine HOf.out.mono ?_; rintro e w7 ⟨rfl, rfl⟩) | fail)
                  go_quiet (fail)
                  go_wp2_with fail
                  go_roundw
                  case rel => exact ⟨j2 + 2, by omega, by go_num, by rw [HZ.out], _, rfl⟩
                  case measure => simp [intOf]; omega
              · obtain rfl : k2 = (hold L5).length := by omega
                have hz : (S (cnt L5) ((hold L5).take (hold L5).length) : Int) = (t - m) := by rw [List.take_length, S_hold]; exact HT5.out
                rw [hz]
                clear hz
                go_wp2_with (first | (go_at_call 11; refine (HTL6.out _).mono ?_; rintro e w7 ⟨rfl, rfl⟩) | fail)
                all_goals exact ⟨⟨k + 1, by omega, by go_num, L5, HS6.out.drewN dr, hlk, HB5.out⟩, by simp [intOf] <;> omega⟩
          · have hb : dpB L y = false := by unfold dpB; simpa using hb1
            by_cases ht0 : 0 < t
            · have hfin : (t - m == 0) = false := by have := HTL.out; simp; omega
              refine (drop_st HS1.out y HY.out (by omega) m false L5 hm hb hL5).mono ?_
              rintro e w5 ⟨rfl, h5⟩
              have HS5 := Lib.hid (stMore h5 (Nat.le_succ k))
              have HTT := Lib.hid (total_st h5 (t - m) HT5.out)
              have HOO := Lib.hid (of_st h5 y HY.out 0 hc0)
              skip
              clear h5 hb hL5 HL4 HS1 HP1 HP2 HT d1 d2 hcl hlen hb1 hm hc0
              go_wp2_with fail
              refine HTT.out.mono ?_
              rintro e w5' ⟨rfl, rfl⟩
              go_wp2_with fail
              refine HOO.out.mono ?_
              rintro e w5' ⟨rfl, rfl⟩
              go_wp2_with fail
              refine (holders_st HS5.out (by omega)).mono ?_
              rintro e w6 ⟨v6, rfl, hR6, hb6⟩
              obtain ⟨A6, c6, rfl, _, _⟩ := ownsRow_form hR6
              have HS6 := Lib.hid (HS5.out.grown hb6)
              have HR6 := Lib.hid hR6
              have hhl : (hold L5).length ≤ 61 := by have := hold_length L5; omega
              have HTL6 := Lib.hid (fun j => total_st (HS6.out.drewN j) (t - m) HT5.out)
              clear hR6 hb6
              go_wp2_with fail
              go_loopw [13, 15] (fun s i wr => ∃ k2 : Nat, k2 ≤ (hold L5).length ∧ i = .int .i64 (k2 : Int) ∧ s = .int .i64 (S (cnt L5) ((hold L5).take k2) : Int) ∧ ∃ d, wr = w6.drewN d) (fun _ i _ => (hold L5).length - (intOf i).toNat)
              case atStart => exact ⟨0, Nat.zero_le _, rfl, rfl, 0, rfl⟩
              case round =>
                obtain ⟨k2, hk2, rfl, rfl, dr, rfl⟩ := hrel
                by_cases hlt2 : k2 < (hold L5).length
                · obtain ⟨g6, c7, he7, _, _, _, _, hc7⟩ := ownsRow_at HR6.out hlt2
                  injection he7 with e1 e2 e3
                  subst e1 e3
                  clear e2
                  obtain ⟨x2, hx2⟩ : ∃ x2, (hold L5)[k2]? = some x2 := ⟨_, List.getElem?_eq_getElem hlt2⟩
                  have cx : w6.cell? ⟨g6, k2, none⟩ = some (.int .i64 x2) := hc7 k2 _ (by rw [List.getElem?_map, hx2]; rfl)
                  have hxb := HB5.out x2 ((hold_mem L5 x2).1 (List.mem_of_getElem? hx2))
                  obtain ⟨m2, hm2⟩ : ∃ m2 : Int, (cnt L5 x2 : Int) = m2 := ⟨_, rfl⟩
                  have hm3 : 1 ≤ m2 := by have := hold_cnt hx2; omega
                  have hm4 : m2 ≤ 61 := by have := cnt_le L5 x2; omega
                  obtain ⟨z, hz⟩ : ∃ z : Int, (S (cnt L5) ((hold L5).take k2) : Int) = z := ⟨_, rfl⟩
                  have hz0 : 0 ≤ z := by omega
                  have hz1 : z ≤ 61 := by have := S_take_le (cnt L5) (hold L5) k2; have := S_hold L5; omega
                  have HOf := Lib.hid (of_st (HS6.out.drewN dr) x2 (WalkArith.wf_i64 (by omega)) m2 hm2)
                  have HZ := Lib.hid (show (S (cnt L5) ((hold L5).take (k2 + 1)) : Int) = z + m2 from by rw [S_take_succ _ hx2]; omega)
                  rw [hz]
                  cases k2 with
                  | zero =>
                    have hg1 : decide (m2 < 1) = false := by simp; omega
                    have hg2 : decide ((0 : Int) < 0) = false := by simp
                    clear hz hm2 hc7 hx2
                    rw [show ((0 : Nat) : Int) = 0 from rfl]
                    go_wp2_with (first | (go_at_call 9; refine HOf.out.mono ?_; rintro e w7 ⟨rfl, rfl⟩) | fail)
                    go_quiet (fail)
                    go_wp2_with fail
                    go_roundw
                    case rel => exact ⟨1, by omega, by go_num, by rw [HZ.out], _, rfl⟩
                    case measure => simp [intOf]; omega
                  | succ j2 =>
                    obtain ⟨x1, hx1⟩ : ∃ x1, (hold L5)[j2]? = some x1 := ⟨_, List.getElem?_eq_getElem (by omega)⟩
                    have cx1 : w6.cell? ⟨g6, j2, none⟩ = some (.int .i64 x1) := hc7 j2 _ (by rw [List.getElem?_map, hx1]; rfl)
                    have hxlt := hold_step hx1 hx2
                    have hg1 : decide (m2 < 1) = false := by simp; omega
                    have hg2 : decide ((0 : Int) < (j2 : Int) + 1) = true := decide_eq_true (by omega)
                    have hg3 : decide (x2 ≤ x1) = false := by simp; omega
                    have hj0 : (0 : Int) ≤ (j2 : Int) := by omega
                    have hj2 : (j2 : Int) < ((hold L5).length : Int) := by omega
                    have hj3 : (j2 : Int) + 1 < ((hold L5).length : Int) := by omega
                    clear hz hm2 hc7 hx2 hx1
                    rw [show ((j2 + 1 : Nat) : Int) = (j2 : Int) + 1 from by omega]
                    go_wp2_with (first | (go_at_call 9; refine HOf.out.mono ?_; rintro e w7 ⟨rfl, rfl⟩) | fail)
                    go_quiet (fail)
                    go_wp2_with fail
                    go_roundw
                    case rel => exact ⟨j2 + 2, by omega, by go_num, by rw [HZ.out], _, rfl⟩
                    case measure => simp [intOf]; omega
                · obtain rfl : k2 = (hold L5).length := by omega
                  have hz : (S (cnt L5) ((hold L5).take (hold L5).length) : Int) = (t - m) := by rw [List.take_length, S_hold]; exact HT5.out
                  rw [hz]
                  clear hz
                  go_wp2_with (first | (go_at_call 11; refine (HTL6.out _).mono ?_; rintro e w7 ⟨rfl, rfl⟩) | fail)
                  all_goals exact ⟨⟨k + 1, by omega, by go_num, L5, HS6.out.drewN dr, hlk, HB5.out⟩, by simp [intOf] <;> omega⟩
            · have hfin : t ≤ 0 := by omega
              refine (drop_st HS1.out y HY.out (by omega) m false L5 hm hb hL5).mono ?_
              rintro e w5 ⟨rfl, h5⟩
              have HS5 := Lib.hid (stMore h5 (Nat.le_succ k))
              have HTT := Lib.hid (total_st h5 (t - m) HT5.out)
              have HOO := Lib.hid (of_st h5 y HY.out 0 hc0)
              skip
              clear h5 hb hL5 HL4 HS1 HP1 HP2 HT d1 d2 hcl hlen hb1 hm hc0
              go_wp2_with fail
              refine HTT.out.mono ?_
              rintro e w5' ⟨rfl, rfl⟩
              go_wp2_with fail
              refine HOO.out.mono ?_
              rintro e w5' ⟨rfl, rfl⟩
              go_wp2_with fail
              refine (holders_st HS5.out (by omega)).mono ?_
              rintro e w6 ⟨v6, rfl, hR6, hb6⟩
              obtain ⟨A6, c6, rfl, _, _⟩ := ownsRow_form hR6
              have HS6 := Lib.hid (HS5.out.grown hb6)
              have HR6 := Lib.hid hR6
              have hhl : (hold L5).length ≤ 61 := by have := hold_length L5; omega
              have HTL6 := Lib.hid (fun j => total_st (HS6.out.drewN j) (t - m) HT5.out)
              clear hR6 hb6
              go_wp2_with fail
              go_loopw [13, 15] (fun s i wr => ∃ k2 : Nat, k2 ≤ (hold L5).length ∧ i = .int .i64 (k2 : Int) ∧ s = .int .i64 (S (cnt L5) ((hold L5).take k2) : Int) ∧ ∃ d, wr = w6.drewN d) (fun _ i _ => (hold L5).length - (intOf i).toNat)
              case atStart => exact ⟨0, Nat.zero_le _, rfl, rfl, 0, rfl⟩
              case round =>
                obtain ⟨k2, hk2, rfl, rfl, dr, rfl⟩ := hrel
                by_cases hlt2 : k2 < (hold L5).length
                · obtain ⟨g6, c7, he7, _, _, _, _, hc7⟩ := ownsRow_at HR6.out hlt2
                  injection he7 with e1 e2 e3
                  subst e1 e3
                  clear e2
                  obtain ⟨x2, hx2⟩ : ∃ x2, (hold L5)[k2]? = some x2 := ⟨_, List.getElem?_eq_getElem hlt2⟩
                  have cx : w6.cell? ⟨g6, k2, none⟩ = some (.int .i64 x2) := hc7 k2 _ (by rw [List.getElem?_map, hx2]; rfl)
                  have hxb := HB5.out x2 ((hold_mem L5 x2).1 (List.mem_of_getElem? hx2))
                  obtain ⟨m2, hm2⟩ : ∃ m2 : Int, (cnt L5 x2 : Int) = m2 := ⟨_, rfl⟩
                  have hm3 : 1 ≤ m2 := by have := hold_cnt hx2; omega
                  have hm4 : m2 ≤ 61 := by have := cnt_le L5 x2; omega
                  obtain ⟨z, hz⟩ : ∃ z : Int, (S (cnt L5) ((hold L5).take k2) : Int) = z := ⟨_, rfl⟩
                  have hz0 : 0 ≤ z := by omega
                  have hz1 : z ≤ 61 := by have := S_take_le (cnt L5) (hold L5) k2; have := S_hold L5; omega
                  have HOf := Lib.hid (of_st (HS6.out.drewN dr) x2 (WalkArith.wf_i64 (by omega)) m2 hm2)
                  have HZ := Lib.hid (show (S (cnt L5) ((hold L5).take (k2 + 1)) : Int) = z + m2 from by rw [S_take_succ _ hx2]; omega)
                  rw [hz]
                  cases k2 with
                  | zero =>
                    have hg1 : decide (m2 < 1) = false := by simp; omega
                    have hg2 : decide ((0 : Int) < 0) = false := by simp
                    clear hz hm2 hc7 hx2
                    rw [show ((0 : Nat) : Int) = 0 from rfl]
                    go_wp2_with (first | (go_at_call 9; refine HOf.out.mono ?_; rintro e w7 ⟨rfl, rfl⟩) | fail)
                    go_quiet (fail)
                    go_wp2_with fail
                    go_roundw
                    case rel => exact ⟨1, by omega, by go_num, by rw [HZ.out], _, rfl⟩
                    case measure => simp [intOf]; omega
                  | succ j2 =>
                    obtain ⟨x1, hx1⟩ : ∃ x1, (hold L5)[j2]? = some x1 := ⟨_, List.getElem?_eq_getElem (by omega)⟩
                    have cx1 : w6.cell? ⟨g6, j2, none⟩ = some (.int .i64 x1) := hc7 j2 _ (by rw [List.getElem?_map, hx1]; rfl)
                    have hxlt := hold_step hx1 hx2
                    have hg1 : decide (m2 < 1) = false := by simp; omega
                    have hg2 : decide ((0 : Int) < (j2 : Int) + 1) = true := decide_eq_true (by omega)
                    have hg3 : decide (x2 ≤ x1) = false := by simp; omega
                    have hj0 : (0 : Int) ≤ (j2 : Int) := by omega
                    have hj2 : (j2 : Int) < ((hold L5).length : Int) := by omega
                    have hj3 : (j2 : Int) + 1 < ((hold L5).length : Int) := by omega
                    clear hz hm2 hc7 hx2 hx1
                    rw [show ((j2 + 1 : Nat) : Int) = (j2 : Int) + 1 from by omega]
                    go_wp2_with (first | (go_at_call 9; refine HOf.out.mono ?_; rintro e w7 ⟨rfl, rfl⟩) | fail)
                    go_quiet (fail)
                    go_wp2_with fail
                    go_roundw
                    case rel => exact ⟨j2 + 2, by omega, by go_num, by rw [HZ.out], _, rfl⟩
                    case measure => simp [intOf]; omega
                · obtain rfl : k2 = (hold L5).length := by omega
                  have hz : (S (cnt L5) ((hold L5).take (hold L5).length) : Int) = (t - m) := by rw [List.take_length, S_hold]; exact HT5.out
                  rw [hz]
                  clear hz
                  go_wp2_with (first | (go_at_call 11; refine (HTL6.out _).mono ?_; rintro e w7 ⟨rfl, rfl⟩) | fail)
                  all_goals exact ⟨⟨k + 1, by omega, by go_num, L5, HS6.out.drewN dr, hlk, HB5.out⟩, by simp [intOf] <;> omega⟩
      · have HF := Lib.hid HS1.out.1
        clear HL4 HS1
        go_wp2_with fail
        go_ret
        exact ⟨ret1_b rfl, HF.out⟩

theorem contract {H : Type} {enc : TypeId × Value → H} (W : World) {base : Nat} {r : Reach} {b : Nat} {hd : Bool} {v0 : Value} {d0 : DataW H} {p0 : List MemPlace}
    (o0 : Value.okWide Try.prog W r b 22 v0) (h0 : DataW.Trod enc Try.prog W base (fun _ => true) hd 22 v0 d0 p0) {Q R : Prop} (_ : Q) (_ : R) :
    Calls Try.prog 6 #[v0] W fun e w' => e = .returned (.bool true) ∧ Below W.heap.size W w' := by
  obtain ⟨A, c, xs, rfl, hx, l1, l2⟩ := open_pairs_arg Try.underlying22 Try.underlying31 (by kernel_rfl) rfl rfl (by kernel_rfl) (by kernel_rfl) Try.underlying3 Try.underlying3 o0 h0
  exact walk A c xs W hx (by omega)

theorem own : ownKnob Try.prog.godebug = none := by kernel_rfl
theorem laidOut : laidOutB Try.prog = true := by kernel_rfl
theorem readable : ∀ t ∈ Try.f6.params.toList, Try.prog.readableRec t = true ∧ t < Try.prog.types.size := by
  rw [show Try.f6.params = #[22] from Try.params6]
  intro t h
  simp only [List.mem_cons, List.not_mem_nil, or_false] at h
  subst h
  exact ⟨by kernel_rfl, of_decide_eq_true (by kernel_rfl)⟩
set_option maxRecDepth 100000 in
theorem lifted (os : Os) (started : os.Started) (H : Type) (enc : TypeId × Value → H) :
    ReturnsInHanded {} Try.checked os 6 .any (Rows.fixSumsSpec.pre6 enc Try.prog Try.f6 Rows.fixSumsRow.domain false) (Rows.fixSumsSpec.post enc Try.prog Try.f6 false true false false) := by
  refine K.law_lift (C := Try.checked) (b := 4) own started (by kernel_rfl) Try.func6
    (ChangeSpec.witness6 (enc := enc) (C := Try.checked) false ⟨#[], #[.slice none 0 0], []⟩ 8 (by kernel_rfl) (by kernel_rfl) (by kernel_rfl) (by kernel_rfl)) laidOut readable rfl rfl Try.underlying4 ?_ ?_
  · intro ds hds
    rw [show Try.f6.params = #[22] from Try.params6] at hds
    match ds, hds with
    | [d0], _ => rfl
  · intro W base args ds p hval hA hlt hsz
    rw [show Try.checked.prog = Try.prog from rfl] at hval hA hsz
    rw [show Try.f6.params = #[22] from Try.params6] at hA hval hsz
    obtain ⟨v0, vs0, d0, ds0, p0, q0, hargs, rfl, rfl, h0, r0⟩ := trodAll_cons hA
    obtain ⟨rfl, rfl, rfl⟩ := trodAll_nil r0
    obtain rfl : args = #[v0] := by cases args; simp_all
    exact contract W (hval 0 22 v0 rfl rfl) h0 (fun x hx => hlt x hx) hsz

theorem over : Rows.fixSumsRow.holds Try.pinned (OpenSpec.ofChange Rows.fixSumsSpec) :=
  OpenClaim.holds_of_wide 6 Try.f6 rfl rfl rfl rfl rfl rfl rfl ⟨rfl, rfl, rfl, rfl, rfl⟩ rfl rfl rfl rfl rfl (by kernel_rfl) Try.func6 (by kernel_rfl)
    (of_decide_eq_true (by kernel_rfl)) (by unfold Func.isWrapper; rw [if_neg (of_decide_eq_false (by kernel_rfl))]; exact ⟨rfl, rfl⟩)
    (fun os started H enc _ => lifted os started H enc)

/-- THE STATEMENT -/
theorem proved : Rows.FixSumsSaid := over
#print axioms proved

end Go.Proofs.Ytbldebjdgenfdaa.FixSums
