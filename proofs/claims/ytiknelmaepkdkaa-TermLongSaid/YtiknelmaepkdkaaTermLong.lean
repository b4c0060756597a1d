/- The law TermLong returns true for all numbers: a list of so many items of so many words each may be just as far as it has at most 65,536 words. -/
import Derived.Test.YtiknelmaepkdkaaAwake02
import Derived.Test.YtiknelmaepkdkaaCheck
import Derived.Test.YtiknelmaepkdkaaRefTm
import Derived.Test.YtiknelmaepkdkaaFill
import Derived.Test.YtiknelmaepkdkaaGrow
import Derived.Test.YtiknelmaepkdkaaInv
import Derived.Test.YtiknelmaepkdkaaSteps
import Derived.Deep.RegionHeld3
namespace Go.Proofs.Ytiknelmaepkdkaa.TermLong
open Go.RowKit K
open Go.ChangeShapes Go.WideShapes Go.ChangeAt
set_option linter.unusedVariables false
set_option linter.unusedSimpArgs false

def nums (k : Nat) : List Tm := (List.range k).map fun (j : Nat) => tnum (j : Int)
theorem nums_len (k : Nat) : (nums k).length = k := by simp [nums]
theorem nums_succ (k : Nat) : nums (k + 1) = nums k ++ [tnum (k : Int)] := by simp [nums, List.range_succ]
theorem nums_nodes (k : Nat) : nodesL (nums k) = k := by
  induction k with
  | zero => rfl
  | succ k ih => rw [nums_succ, nodesL_append, ih, nodesL_cons, nodesL_nil]; simp [tnum, nodes_eq, nodesL_nil]
def oneT (m : Nat) : Tm := ttup (nums m)
theorem one_nodes (m : Nat) : nodes (oneT m) = m + 1 := by unfold oneT ttup; rw [nodes_mk, nums_nodes]
theorem all_nodes (n m : Nat) : nodesL (List.replicate n (oneT m)) = n * (m + 1) := by
  induction n with
  | zero => simp [nodesL_nil]
  | succ n ih => rw [List.replicate_succ, nodesL_cons, ih, one_nodes, Nat.succ_mul]; omega
theorem long_nodes (n m : Nat) (hn : n ≤ 2000) (hm : m ≤ 70) : nodes (tlist (List.replicate n (oneT m)) tnil) ≤ 1048576 := by
  rw [nodes_list, all_nodes, List.length_replicate]
  have h1 : n * (m + 1) ≤ 2000 * 71 := Nat.mul_le_mul hn (by omega)
  have h2 : nodes tnil = 1 := by simp [tnil, nodes_eq, nodesL_nil]
  omega

set_option maxRecDepth 100000 in
set_option maxHeartbeats 8000000 in
theorem walk (ni mi : Int) (w : World) : Calls Try.prog 4 #[.int .i64 ni, .int .i64 mi] w fun e w' => e = .returned (.bool true) ∧ Below w.heap.size w w' := by
  by_cases h0 : ni < 0
  · go_enter Try.func4, Try.ntmps4
    go_wp2_with fail
    go_ret
    exact ⟨rfl, Below.refl _ _⟩
  by_cases h1 : 2000 < ni
  · go_enter Try.func4, Try.ntmps4
    go_wp2_with fail
    go_ret
    exact ⟨rfl, Below.refl _ _⟩
  by_cases h2 : mi < 0
  · go_enter Try.func4, Try.ntmps4
    go_wp2_with fail
    go_ret
    exact ⟨rfl, Below.refl _ _⟩
  by_cases h3 : 70 < mi
  · go_enter Try.func4, Try.ntmps4
    go_wp2_with fail
    go_ret
    exact ⟨rfl, Below.refl _ _⟩
  obtain ⟨N, rfl⟩ : ∃ N : Nat, ni = (N : Int) := ⟨ni.toNat, by omega⟩
  obtain ⟨M, rfl⟩ : ∃ M : Nat, mi = (M : Int) := ⟨mi.toNat, by omega⟩
  have hN : N ≤ 2000 := by omega
  have hM : M ≤ 70 := by omega
  have HLN := Lib.hid (long_nodes N M hN hM)
  have hn0 : ¬ (N : Int) < 0 := h0
  have hn1 : ¬ (2000 : Int) < (N : Int) := h1
  have hm0 : ¬ (M : Int) < 0 := h2
  have hm1 : ¬ (70 : Int) < (M : Int) := h3
  clear h0 h1 h2 h3
  obtain ⟨w1, hmk, hF1, hb1, hz1⟩ := make_row w w.heap.size M (Nat.le_refl _) (by omega)
  have HF1 := Lib.hid hF1
  have HB1 := Lib.hid hb1
  clear hF1 hb1
  go_enter Try.func4, Try.ntmps4
  go_wp2_with fail
  refine (tup_val _ _ _ _).mono ?_
  rintro e w2 ⟨rfl, hb2⟩
  have hz2 := hb2.size
  have HB2 := Lib.hid (bnext HB1.out hb2)
  have HF2 := Lib.hid (HF1.out.later hb2)
  obtain ⟨w3, hw3⟩ : ∃ w3, w2.alloc (.cells #[.int .i64 7, .int .i64 0, .string ⟨#[]⟩, .slice (some ⟨w.heap.size, 0, none⟩) M M] 24) = w3 := ⟨_, rfl⟩
  have HB3 := Lib.hid (show Below w.heap.size w w3 from by rw [← hw3]; exact ballocs HB2.out _)
  have HG3 := Lib.hid (show Blk w3 w2.heap.size 24 #[.int .i64 7, .int .i64 0, .string ⟨#[]⟩, .slice (some ⟨w.heap.size, 0, none⟩) M M] from by rw [← hw3]; exact Blk.new _ _ _)
  have HF3 := Lib.hid (show FRow w3 w.heap.size (fun _ => False) w.heap.size M [] from by rw [← hw3]; exact HF2.out.later (ballocs (Below.refl _ _) _))
  have HW3 := Lib.hid hw3
  clear hb2 hw3 hmk
  go_wp2_with fail
  rw [HW3.out]
  obtain ⟨bx, hbx⟩ : ∃ b, w2.heap.size = b := ⟨_, rfl⟩
  have hbx1 : w.heap.size + 1 ≤ bx := by omega
  rw [hbx] at HG3 ⊢
  clear HW3 hbx
  go_loopw [6] (fun i wr => ∃ k : Nat, k ≤ M ∧ i = .int .i64 (k : Int) ∧ FRow wr w.heap.size (fun _ => False) w.heap.size M (nums k) ∧ Blk wr bx 24 #[.int .i64 7, .int .i64 0, .string ⟨#[]⟩, .slice (some ⟨w.heap.size, 0, none⟩) M M] ∧ Below w.heap.size w wr) (fun i _ => M - (intOf i).toNat)
  case atStart => exact ⟨0, Nat.zero_le _, rfl, HF3.out, HG3.out, HB3.out⟩
  case round =>
    obtain ⟨k, hk, rfl, hF, hG, hB⟩ := hrel
    have HF := Lib.hid hF; have HG := Lib.hid hG; have HB := Lib.hid hB
    clear hF hG hB
    by_cases hlt : k < M
    · go_wp2_with fail
      refine wp_region_by (by kernel_rfl) (by kernel_rfl) (fun L a' wx => ∃ x32 x33 x34 x35 x36 x37, a' = { tmps := #[.int .i64 (N : Int), .int .i64 (M : Int), undef, undef, .bool false, .pointer (some ⟨bx, 0, none⟩), .int .i64 (k : Int), undef, undef, undef, .int .i64 (N : Int), .bool false, .bool false, .int .i64 (N : Int), .bool false, .bool false, .bool false, .int .i64 (M : Int), .bool false, .bool false, .bool false, .int .i64 (M : Int), .bool false, .bool false, .int .i64 (M : Int), .slice (some ⟨w.heap.size, 0, none⟩) M M, .agg #[.int .i64 7, .int .i64 0, .string { data := #[] }, .slice (some ⟨w.heap.size, 0, none⟩) M M], .int .i64 (k : Int), .int .i64 (M : Int), .bool true, u30, u31, x32, x33, x34, x35, x36, x37, undef, undef, undef, undef, undef, undef, undef, undef, undef, undef, undef, undef, undef, undef, undef, undef, undef, undef, undef, undef], defers := [] } ∧ Below w.heap.size w wx ∧ (Blk wx bx 24 #[.int .i64 7, .int .i64 0, .string ⟨#[]⟩, .slice (some ⟨w.heap.size, 0, none⟩) M M]) ∧ (FRow wx w.heap.size (fun _ => False) w.heap.size M (if L 6 = true then nums (k + 1) else nums k)) ∧ (L 0 = true → x32 = .pointer (some ⟨bx, 3, none⟩)) ∧ (L 1 = true → x33 = .slice (some ⟨w.heap.size, 0, none⟩) M M) ∧ (L 2 = true → x34 = .int .i64 (k : Int)) ∧ (L 3 = true → x35 = .int .i64 (k : Int)) ∧ (L 4 = true → x36 = .agg #[.int .i64 1, .int .i64 (k : Int), .string ⟨#[]⟩, .slice none 0 0]) ∧ (L 5 = true → x37 = .pointer (some ⟨w.heap.size, k * 4, none⟩))) ?_ ?_ ?_
      · exact ⟨_, _, _, _, _, _, rfl, btodrew HB.out, HG.out.drew, by simpa using HF.out.later (btodrew (Below.refl _ _)), nofun, nofun, nofun, nofun, nofun, nofun⟩
      · rintro L a' wx ⟨x32, x33, x34, x35, x36, x37, rfl, hb, hG, hF, h32, h33, h34, h35, h36, h37⟩ hL
        have e6 := hL 6 (by decide)
        rw [if_pos e6] at hF
        have HF9 := Lib.hid hF; have HG9 := Lib.hid hG; have HB9 := Lib.hid hb
        clear hF hG hb h32 h33 h34 h35 h36 h37 hL e6
        go_wp2_with fail
        go_roundw
        case rel => exact ⟨k + 1, by omega, by go_num, HF9.out, HG9.out, HB9.out⟩
        case measure => simp [intOf]; omega
      · rintro i o ho L a' wx ⟨x32, x33, x34, x35, x36, x37, rfl, hb, hG, hF, h32, h33, h34, h35, h36, h37⟩ hi hdep K hK
        rcases i with _ | _ | _ | _ | _ | _ | _ | i
        · obtain rfl := Option.some.inj ho
          go_simp
          exact hK _ _ ⟨_, x33, x34, x35, x36, x37, rfl, hb, hG, by simpa [upto] using hF, fun _ => rfl, by simpa [upto] using h33, by simpa [upto] using h34, by simpa [upto] using h35, by simpa [upto] using h36, by simpa [upto] using h37⟩
        · obtain rfl := Option.some.inj ho
          obtain rfl := h32 (hdep ⟨0, .data⟩ (by simp) rfl)
          obtain ⟨a0, a1, a2, a3, _, _, _, _⟩ := hG.four
          go_simp
          exact hK _ _ ⟨_, _, x34, x35, x36, x37, rfl, hb, hG, by simpa [upto] using hF, fun _ => rfl, fun _ => rfl, by simpa [upto] using h34, by simpa [upto] using h35, by simpa [upto] using h36, by simpa [upto] using h37⟩
        · obtain rfl := Option.some.inj ho
          go_simp
          exact hK _ _ ⟨x32, x33, _, x35, x36, x37, rfl, hb, hG, by simpa [upto] using hF, by simpa [upto] using h32, by simpa [upto] using h33, fun _ => rfl, by simpa [upto] using h35, by simpa [upto] using h36, by simpa [upto] using h37⟩
        · obtain rfl := Option.some.inj ho
          go_simp
          exact hK _ _ ⟨x32, x33, x34, _, x36, x37, rfl, hb, hG, by simpa [upto] using hF, by simpa [upto] using h32, by simpa [upto] using h33, by simpa [upto] using h34, fun _ => rfl, by simpa [upto] using h36, by simpa [upto] using h37⟩
        · obtain rfl := Option.some.inj ho
          obtain rfl := h35 (hdep ⟨3, .data⟩ (by simp) rfl)
          go_simp
          refine (num_val _ _).mono ?_
          rintro e w9 ⟨rfl, hb9⟩
          exact hK _ _ ⟨x32, x33, x34, _, _, x37, rfl, bnext hb hb9, hG.below hb9 hG.lt, by simpa [upto] using hF.later hb9, by simpa [upto] using h32, by simpa [upto] using h33, by simpa [upto] using h34, fun _ => rfl, fun _ => rfl, by simpa [upto] using h37⟩
        · obtain rfl := Option.some.inj ho
          obtain rfl := h33 (hdep ⟨1, .data⟩ (by simp) rfl)
          obtain rfl := h34 (hdep ⟨2, .data⟩ (by simp) rfl)
          have i1 : (0 : Int) ≤ (k : Int) := by omega
          have i2 : (k : Int) < (M : Int) := by omega
          go_simp
          exact hK _ _ ⟨x32, _, _, x35, x36, _, rfl, hb, hG, by simpa [upto] using hF, by simpa [upto] using h32, fun _ => rfl, fun _ => rfl, by simpa [upto] using h35, by simpa [upto] using h36, fun _ => rfl⟩
        · obtain rfl := Option.some.inj ho
          obtain rfl := h37 (hdep ⟨5, .data⟩ (by simp) rfl)
          obtain rfl := h36 (hdep ⟨4, .data⟩ (by simp) rfl)
          have hF' := hF
          rw [hi, if_neg (by decide)] at hF'
          obtain ⟨⟨y0, c0⟩, ⟨y1, c1⟩, ⟨y2, c2⟩, ⟨y3, c3⟩, f0, f1, f2, f3⟩ := hF'.spot hlt
          have hp := hF'.put (u := tnum (k : Int)) (by rw [nums_len]; exact hlt) (num_leaf wx (F := fun _ => False) (k : Int) (WalkArith.wf_i64 (by omega)))
          rw [nums_len, ← nums_succ] at hp
          unfold put4at at hp
          have hne : bx ≠ w.heap.size := by omega
          go_simp
          exact hK _ _ ⟨x32, x33, x34, x35, _, _, rfl, ((((hb.setCell (p := ⟨w.heap.size, k * 4, none⟩) (Nat.le_refl _) _).setCell (p := ⟨w.heap.size, k * 4 + 1, none⟩) (Nat.le_refl _) _).setCell (p := ⟨w.heap.size, k * 4 + 2, none⟩) (Nat.le_refl _) _).setCell (p := ⟨w.heap.size, k * 4 + 3, none⟩) (Nat.le_refl _) _), ((((hG.far hne _).far hne _).far hne _).far hne _), by simpa [upto] using hp, by simpa [upto] using h32, by simpa [upto] using h33, by simpa [upto] using h34, by simpa [upto] using h35, fun _ => rfl, fun _ => rfl⟩
        · simp at ho
    · obtain rfl : k = M := by omega
      obtain ⟨wo, rfl⟩ : ∃ x, x = wr := ⟨_, rfl⟩
      have hF := HF.out
      have hone : TA wo (oneT k) (.agg #[.int .i64 7, .int .i64 0, .string ⟨#[]⟩, .slice (some ⟨w.heap.size, 0, none⟩) k k]) := by
        have h1 := TAt.of (w := wo) (F := fun b => False ∨ b = w.heap.size) (t := oneT k) (A := some ⟨w.heap.size, 0, none⟩) (c := k) ⟨wf7, wf0, se0, by simp [oneT, ttup, nums_len], by unfold maxLen; omega, fun h => by cases h⟩ hF.done
        have h2 := h1.mono (G := (· < wo.heap.size)) fun b hb => by rcases hb with hb | hb; exact hb.elim; rw [hb]; exact hF.lt.2
        have e : tv (oneT k) (some ⟨w.heap.size, 0, none⟩) k = .agg #[.int .i64 7, .int .i64 0, .string ⟨#[]⟩, .slice (some ⟨w.heap.size, 0, none⟩) k k] := by
          unfold tv oneT ttup
          simp only [Tm.k_mk, Tm.n_mk, Tm.s_mk, Tm.l_mk]
          rw [nums_len]
          rfl
        rw [e] at h2
        exact h2
      have HO := Lib.hid hone
      have hbxl := HG.out.lt
      clear hF hone HF
      go_wp2_with fail
      go_loopw [7, 8] (fun v i wq => ∃ j : Nat, j ≤ N ∧ i = .int .i64 (j : Int) ∧ ORow wq wo.heap.size v (List.replicate j (oneT k)) ∧ Blk wq bx 24 #[.int .i64 7, .int .i64 0, .string ⟨#[]⟩, .slice (some ⟨w.heap.size, 0, none⟩) k k] ∧ Below wo.heap.size wo wq) (fun _ i _ => N - (intOf i).toNat)
      case atStart => exact ⟨0, Nat.zero_le _, rfl, ⟨[], .nil, World.ownsRow_nil _ _ _ _⟩, HG.out, Below.refl _ _⟩
      case round =>
        obtain ⟨j, hj, rfl, hR, hG, hB⟩ := hrel
        obtain ⟨A, c, rfl, hts⟩ := hR.tsA hB.size
        rw [List.length_replicate] at hR ⊢
        have HTS := Lib.hid hts
        have HGq := Lib.hid hG
        have HBq := Lib.hid hB
        have HRq := Lib.hid hR
        obtain ⟨p0, p1, p2, p3, _, _, _, _⟩ := hG.four
        clear hts hG hR hB
        by_cases hlt : j < N
        · have hR2 := HRq.out.later HBq.out.size (ballocs (Below.refl _ wr) (.cells #[.int .i64 7, .int .i64 0, .string ⟨#[]⟩, .slice (some ⟨w.heap.size, 0, none⟩) k k] 24))
          obtain ⟨v', w', hrun, hR3, hg3, hat⟩ := hR2.one (t := oneT k) (c := 1) (g := wr.heap.size) (by rw [World.size_alloc]; have := HBq.out.size; omega) (Blk.new _ _ _) ((TAt.under HO.out HBq.out (fun b hb => hb)).under (ballocs (Below.refl wr.heap.size wr) _) (fun b hb => by have := HBq.out.size; omega)) (by rw [List.length_replicate]; omega)
          have HRUN := Lib.hid hrun; have HR3 := Lib.hid hR3; have HG3' := Lib.hid hg3
          have HLT := Lib.hid (hR2.lt)
          clear hrun hR3 hg3 hat hR2
          go_wp2_with (first
            | (at_builtin; refine wpList_append_run (.tmp 43) (.tmp 45) 22 _ _ _ HRUN.out rfl rfl rfl rfl ?_)
            | fail)
          go_roundw
          case rel =>
            have hz := HBq.out.size
            refine ⟨j + 1, by omega, by go_num, ?_, ?_, (HBq.out.alloc HBq.out.size _).grown HG3'.out (by rw [World.size_alloc]; omega) (fun r hr => (HLT.out r hr).1)⟩
            · have := HR3.out; rwa [← List.replicate_succ'] at this
            · exact (HG3'.out.block bx (by rw [World.size_alloc]; have := HGq.out.lt; omega) (fun e => by have := (HLT.out _ e.symm).1; omega)).trans (HGq.out.alloc _)
          case measure => simp [intOf]; omega
        · obtain rfl : j = N := by omega
          go_wp2_with fail
          refine (none_val _).mono ?_
          rintro e w5 ⟨rfl, hb5⟩
          have HB5 := Lib.hid (bnext HBq.out hb5)
          have HL5 := Lib.hid (HTS.out.later hb5)
          have hpr := pairs_any (List.replicate j (oneT k)) tnil A c _ w5 HL5.out (nil_leaf _) (by rw [List.length_replicate]; unfold maxLen; omega)
          rw [List.length_replicate] at hpr
          clear hb5
          go_wp2_with fail
          refine hpr.mono ?_
          rintro e w6 ⟨v6, rfl, ht6, hb6⟩
          obtain ⟨wk, wn, ws, wl, hT⟩ : ∃ k9 n9 s9 q9, tlist (List.replicate j (oneT k)) tnil = .mk k9 n9 s9 q9 := ⟨_, _, _, _, (Tm.eta _).symm⟩
          have HLN2 := HLN
          rw [hT] at ht6 HLN2
          obtain ⟨A7, c7, hv6, _⟩ := ht6.inv
          unfold tv at hv6
          dsimp only [Tm.k_mk, Tm.n_mk, Tm.s_mk, Tm.l_mk] at hv6
          subst hv6
          have HB6 := Lib.hid (bnext HB5.out hb6)
          obtain ⟨w7, hw7⟩ : ∃ w7, w6.alloc (.cells #[.int .i64 wk, .int .i64 wn, .string ws, .slice A7 wl.length c7] 24) = w7 := ⟨_, rfl⟩
          have HB7 := Lib.hid (show Below wo.heap.size wo w7 from by rw [← hw7]; exact ballocs HB6.out _)
          have HGw := Lib.hid (show Blk w7 w6.heap.size 24 #[.int .i64 wk, .int .i64 wn, .string ws, .slice A7 wl.length c7] from by rw [← hw7]; exact Blk.new _ _ _)
          have HTw := Lib.hid (show TA w7 (.mk wk wn ws wl) (.agg #[.int .i64 wk, .int .i64 wn, .string ws, .slice A7 wl.length c7]) from by rw [← hw7]; exact ht6.later (ballocs (Below.refl w6.heap.size w6) _))
          have HW7 := Lib.hid hw7
          clear hb6 ht6 hw7 hpr hT p0 p1 p2 p3
          have HS := Lib.hid (show ∀ wx', Below w7.heap.size w7 wx' → (Below w7.heap.size w7 wx' ∧ wx'.cell? ⟨w6.heap.size, 0, none⟩ = some (.int .i64 wk) ∧ wx'.cell? ⟨w6.heap.size, 1, none⟩ = some (.int .i64 wn) ∧ wx'.cell? ⟨w6.heap.size, 2, none⟩ = some (.string ws) ∧ wx'.cell? ⟨w6.heap.size, 3, none⟩ = some (.slice A7 wl.length c7)) from fun wx' hb => by
            obtain ⟨t0, t1, t2, t3, _, _, _, _⟩ := (HGw.out.below hb HGw.out.lt).four
            exact ⟨hb, t0, t1, t2, t3⟩)
          obtain ⟨ck, hck⟩ : ∃ x, chk (.mk wk wn ws wl) = x := ⟨_, rfl⟩
          have HCk := Lib.hid (fun v w h => check_any (.mk wk wn ws wl) v w h HLN2.out)
          have HRk := Lib.hid (fun v w h => rcheck_any (.mk wk wn ws wl) v w h HLN2.out)
          rw [hck] at HCk HRk
          clear hck
          go_wp2_with fail
          rw [HW7.out]
          go_region_held3 (fun wx' => Below w7.heap.size w7 wx' ∧ wx'.cell? ⟨w6.heap.size, 0, none⟩ = some (.int .i64 wk) ∧ wx'.cell? ⟨w6.heap.size, 1, none⟩ = some (.int .i64 wn) ∧ wx'.cell? ⟨w6.heap.size, 2, none⟩ = some (.string ws) ∧ wx'.cell? ⟨w6.heap.size, 3, none⟩ = some (.slice A7 wl.length c7)) (first
            | exact HS.out _ (btodrew (Below.refl _ _))
            | exact HS.out _ hbz
            | assumption) (first
            | (go_at_call 28
               have hby := And.left (by assumption)
               refine (HCk.out _ _ (HTw.out.later hby)).mono ?_
               rintro e wz ⟨rfl, hbz0⟩
               have hbz := bnext hby hbz0)
            | (go_at_call 29
               have hby := And.left (by assumption)
               refine (HRk.out _ _ (HTw.out.later hby)).mono ?_
               rintro e wz ⟨rfl, hbz0⟩
               have hbz := bnext hby hbz0)
            | (go_at_call 25
               have hby := And.left (by assumption)
               refine (awake_any _).mono ?_
               rintro e wz ⟨rfl, hbz0⟩
               have hbz := bnext hby hbz0))
          have hb8 := And.left (by assumption)
          have HB8 := Lib.hid (bnext HB.out (bnext HB7.out hb8))
          clear hb8
          go_wp2_with fail
          go_ret
          exact ⟨rfl, HB8.out⟩

theorem contract {H : Type} {enc : TypeId × Value → H} (W : World) {base : Nat} {r : Reach} {b : Nat} {sp : Nat → Bool} {hd : Bool} {v0 v1 : Value} {d0 d1 : DataW H} {p0 p1 : List MemPlace}
    (o0 : Value.okWide Try.prog W r b 3 v0) (h0 : DataW.Trod enc Try.prog W base sp hd 3 v0 d0 p0) (o1 : Value.okWide Try.prog W r b 3 v1) (h1 : DataW.Trod enc Try.prog W base sp hd 3 v1 d1 p1) {Q R : Prop} (_ : Q) (_ : R) :
    Calls Try.prog 4 #[v0, v1] W fun e w' => e = .returned (.bool true) ∧ Below W.heap.size W w' := by
  obtain ⟨a0, rfl, _, _, w0⟩ := open_int Try.underlying3 o0 h0
  obtain ⟨a1, rfl, _, _, w1⟩ := open_int Try.underlying3 o1 h1
  exact walk a0 a1 W

theorem own : ownKnob Try.prog.godebug = none := by kernel_rfl
theorem laidOut : laidOutB Try.prog = true := by kernel_rfl
theorem readable : ∀ t ∈ Try.f4.params.toList, Try.prog.readableRec t = true ∧ t < Try.prog.types.size := by
  rw [show Try.f4.params = #[3, 3] from Try.params4]
  intro t h
  simp only [List.mem_cons, List.not_mem_nil, or_false] at h
  rcases h with rfl | rfl
  · exact ⟨by kernel_rfl, of_decide_eq_true (by kernel_rfl)⟩
  · exact ⟨by kernel_rfl, of_decide_eq_true (by kernel_rfl)⟩
set_option maxRecDepth 100000 in
theorem lifted (os : Os) (started : os.Started) (H : Type) (enc : TypeId × Value → H) :
    ReturnsInHanded {} Try.checked os 4 .any (Rows.termLongSpec.pre6 enc Try.prog Try.f4 Rows.termLongRow.domain false) (Rows.termLongSpec.post enc Try.prog Try.f4 false true false false) := by
  refine K.law_lift (C := Try.checked) (b := 4) own started (by kernel_rfl) Try.func4
    (ChangeSpec.witness6 (enc := enc) (C := Try.checked) false ⟨#[], #[.int .i64 0, .int .i64 0], []⟩ 8 (by kernel_rfl) (by kernel_rfl) (by kernel_rfl) (by kernel_rfl)) laidOut readable rfl rfl Try.underlying4 ?_ ?_
  · intro ds hds
    rw [show Try.f4.params = #[3, 3] from Try.params4] at hds
    match ds, hds with
    | [d0, d1], _ => rfl
  · intro W base args ds p hval hA hlt hsz
    rw [show Try.checked.prog = Try.prog from rfl] at hval hA hsz
    rw [show Try.f4.params = #[3, 3] from Try.params4] at hA hval hsz
    obtain ⟨v0, vs0, d0, ds0, p0, q0, hargs, rfl, rfl, h0, r0⟩ := trodAll_cons hA
    obtain ⟨v1, vs1, d1, ds1, p1, q1, rfl, rfl, rfl, h1, r1⟩ := trodAll_cons r0
    obtain ⟨rfl, rfl, rfl⟩ := trodAll_nil r1
    obtain rfl : args = #[v0, v1] := by cases args; simp_all
    exact contract W (hval 0 3 v0 rfl rfl) h0 (hval 1 3 v1 rfl rfl) h1 (fun x hx => hlt x hx) hsz

theorem over : Rows.termLongRow.holds Try.pinned (OpenSpec.ofChange Rows.termLongSpec) :=
  OpenClaim.holds_of_wide 4 Try.f4 rfl rfl rfl rfl rfl rfl rfl ⟨rfl, rfl, rfl, rfl, rfl⟩ rfl rfl rfl rfl rfl (by kernel_rfl) Try.func4 (by kernel_rfl)
    (of_decide_eq_true (by kernel_rfl)) (by unfold Func.isWrapper; rw [if_neg (of_decide_eq_false (by kernel_rfl))]; exact ⟨rfl, rfl⟩)
    (fun os started H enc _ => lifted os started H enc)

/-- THE STATEMENT -/
theorem proved : Rows.TermLongSaid := over
#print axioms proved
end Go.Proofs.Ytiknelmaepkdkaa.TermLong
