/- tenureref16.with, by its contract: rising numbers, with one more. tenureref16.parts, vars, Vars, anyIn, Bound, by contracts. tenureref16.Bound, by its contract. -/
import Derived.Test.YtlaplakaifmpeaaPatRefP
import Derived.Test.YtlaplakaifmpeaaPatRefVar
namespace Go.Proofs.Ytlaplakaifmpeaa.Pt
open Go.RowKit K Go.Shelf
set_option linter.unusedVariables false
set_option linter.unusedSimpArgs false
/-- A slice of ints that reads as a list. -/
def IsAt (w : World) (A : Option Addr) (c : Nat) (l : List Int) : Prop := Reads w w.heap.size 1 A l.length (l.map (Value.int .i64)) ∧ l.length ≤ c ∧ c ≤ maxLen
theorem IsAt.later {w w' : World} {A : Option Addr} {c : Nat} {l : List Int} (h : IsAt w A c l) (hb : Below w.heap.size w w') : IsAt w' A c l := ⟨(h.1.below hb).more hb.size, h.2⟩
theorem IsAt.nil (w : World) : IsAt w none 0 [] := ⟨Reads.none_, by simp, by simp [maxLen]⟩
theorem IsAt.spot {w : World} {A : Option Addr} {c : Nat} {l : List Int} (h : IsAt w A c l) {k : Nat} {x : Int} (hx : l[k]? = some x) : ∃ ad, A = some ad ∧ w.cell? (ad.add k) = some (.int .i64 x) := by
  obtain ⟨ad, u, hA, _, hu, hc⟩ := h.1.at_ (List.getElem?_eq_some_iff.1 hx).1
  rw [List.getElem?_map, hx] at hu
  injection hu with hu
  subst hu
  exact ⟨ad, hA, hc⟩
theorem infoI3 : (Try.prog.info? 3).map (fun i => (i.zero, i.size, i.bytes)) = some (some (.int .i64 0), 1, 8) := by kernel_rfl
theorem reads_take1 {w : World} {B n c : Nat} {A : Option Addr} {xs : List Value} (h : Reads w B 1 A n xs) {k : Nat} (hk : k ≤ n) : Reads w B 1 A k (xs.take k) := by
  refine ⟨by rw [List.length_take, h.1]; omega, fun hn => ?_⟩
  obtain ⟨ad, e, hb, hc⟩ := h.2 (by omega)
  refine ⟨ad, e, hb, fun j u hu => hc j u ?_⟩
  rw [List.getElem?_take] at hu
  split at hu
  · exact hu
  · cases hu
theorem ints_one (l : List Int) : ∀ u ∈ l.map (Value.int .i64), u.oneCell' = true := by
  intro u hu
  obtain ⟨x, _, rfl⟩ := List.mem_map.1 hu
  rfl
/-- append(append(append([]int{}, l[:a]...), n), l[a:]...): the runs, told ahead. -/
theorem with_runs (w : World) (l : List Int) (A : Option Addr) (c a : Nat) (n : Int) (h : IsAt w A c l) (ha : a ≤ l.length) (hl : l.length ≤ 65536) :
    ∃ A1 c1 w1 A2 c2 w2 A3 c3 w3, (Builtin.append_ #[47, 47] 47 #[.slice (some ⟨w.heap.size, 0, none⟩) 0 0, .slice A a c]).run Try.prog (w.alloc (.cells #[] 3)) = .ok (.slice A1 a c1) w1 ∧ Below w.heap.size w w1 ∧
      (Builtin.append_ #[47, 47] 47 #[.slice A1 a c1, .slice (some ⟨w1.heap.size, 0, none⟩) 1 1]).run Try.prog (w1.alloc (.cells #[.int .i64 n] 3)) = .ok (.slice A2 (a + 1) c2) w2 ∧ Below w.heap.size w w2 ∧
      (Builtin.append_ #[47, 47] 47 #[.slice A2 (a + 1) c2, .slice (if c = a then A else A.map (·.add (a * 1))) (l.length - a) (c - a)]).run Try.prog w2 = .ok (.slice A3 (l.length + 1) c3) w3 ∧ Below w.heap.size w w3 ∧ IsAt w3 A3 c3 (l.take a ++ [n] ++ l.drop a) := by
  obtain ⟨hr, hc, hm⟩ := h
  obtain ⟨i0, hi, hz0, hz1, hz2⟩ := info_parts infoI3
  have hb0 : Below w.heap.size w (w.alloc (.cells #[] 3)) := (Below.refl _ _).alloc (Nat.le_refl _) _
  have own0 : (w.alloc (.cells #[] 3)).ownsRow w.heap.size 3 1 (.slice (some ⟨w.heap.size, 0, none⟩) 0 0) 0 [] := World.ownsRow_lit (base := w.heap.size) (e := 3) (size := 1) w #[] 0 (Nat.le_refl _) (by simp [maxLen]) rfl
  obtain ⟨v1, w1, run1, o1, gr1, at1⟩ := run_append_any (P := Try.prog) _ w.heap.size 47 47 3 i0 _ 1 8 Try.underlying47 hi hz0 hz1 hz2 rfl (by decide) _ 0 _ own0 w.heap.size A a c _ ((reads_take1 (c := c) hr ha).below hb0) (fun u hu => ints_one l u (List.mem_of_mem_take hu)) (by unfold maxLen; omega) (by omega) hb0.size
  simp only [Nat.zero_add, List.nil_append] at o1
  have b1 : Below w.heap.size w w1 := hb0.grown gr1 hb0.size (fun r hr => (own0.lt r hr).1)
  obtain ⟨A1, c1, rfl, _, _⟩ := ownsRow_form o1
  have hb1 : Below w.heap.size w (w1.alloc (.cells #[.int .i64 n] 3)) := b1.alloc b1.size _
  have own1 := o1.alloc (.cells #[.int .i64 n] 3)
  have hr1 : Reads (w1.alloc (.cells #[.int .i64 n] 3)) (w1.alloc (.cells #[.int .i64 n] 3)).heap.size 1 (some ⟨w1.heap.size, 0, none⟩) 1 [.int .i64 n] := ⟨rfl, fun _ => ⟨_, rfl, by simp, fun j u hu => by
    rw [add_plain']
    have := (Blk.new w1 3 #[.int .i64 n]).cell (0 + j)
    rw [this]
    simpa using hu⟩⟩
  obtain ⟨v2, w2, run2, o2, gr2, at2⟩ := run_append_any (P := Try.prog) _ w.heap.size 47 47 3 i0 _ 1 8 Try.underlying47 hi hz0 hz1 hz2 rfl (by decide) _ a _ own1 _ _ 1 1 _ hr1 (by simp [Value.oneCell']) (by unfold maxLen; omega) (by omega) hb1.size
  have b2 : Below w.heap.size w w2 := hb1.grown gr2 hb1.size (fun r hr => (own1.lt r hr).1)
  obtain ⟨A2, c2, rfl, _, _⟩ := ownsRow_form o2
  have hcut := (hr.below b2).cut (k := a) (cap := c) ha hc
  obtain ⟨v3, w3, run3, o3, gr3, at3⟩ := run_append_any (P := Try.prog) _ w.heap.size 47 47 3 i0 _ 1 8 Try.underlying47 hi hz0 hz1 hz2 rfl (by decide) _ (a + 1) _ o2 w.heap.size _ (l.length - a) (c - a) _ hcut (fun u hu => ints_one l u (List.mem_of_mem_drop hu)) (by unfold maxLen; omega) (by omega) b2.size
  have b3 : Below w.heap.size w w3 := b2.grown gr3 b2.size (fun r hr => (o2.lt r hr).1)
  obtain ⟨A3, c3, rfl, hc3, hm3⟩ := ownsRow_form o3
  have e1 : a + 1 + (l.length - a) = l.length + 1 := by omega
  have e2 : (l.take a ++ [n] ++ l.drop a).length = l.length + 1 := by simp; omega
  rw [e1] at run3 o3 hc3
  refine ⟨A1, c1, w1, A2, c2, w2, A3, c3, w3, run1, b1, run2, b2, run3, b3, ?_, ?_, hm3⟩
  · have := Reads.of_own o3
    rw [e2]
    simpa [List.map_take, List.map_drop] using this
  · rw [e2]; exact hc3
set_option maxRecDepth 100000 in
set_option maxHeartbeats 8000000 in
theorem with_any (l : List Int) (n : Int) (A : Option Addr) (c : Nat) (w : World) (h : IsAt w A c l) (hl : l.length ≤ 65536) :
    Calls Try.prog 70 #[.slice A l.length c, .int .i64 n] w fun e w' => ∃ A' c', e = .returned (.slice A' (insI l n).length c') ∧ IsAt w' A' c' (insI l n) ∧ Below w.heap.size w w' := by
  have HI := Lib.hid h
  obtain ⟨_, hlc, hcm⟩ := h
  unfold maxLen at hcm
  go_enter Try.func70, Try.ntmps70
  go_wp2_with fail
  go_loopw [5] (fun x wr => ∃ a : Nat, a ≤ l.length ∧ x = .int .i64 (a : Int) ∧ (∀ i y, i < a → l[i]? = some y → y < n) ∧ w = wr) (fun x _ => l.length - (intOf x).toNat)
  case atStart => exact ⟨0, Nat.zero_le _, rfl, fun i y hi => by omega, rfl⟩
  case round =>
    obtain ⟨a, ha, rfl, hlow, rfl⟩ := hrel
    have HLOW := Lib.hid hlow
    clear hlow
    by_cases hlt : a < l.length
    · obtain ⟨y, hy⟩ : ∃ y, l[a]? = some y := ⟨_, List.getElem?_eq_getElem hlt⟩
      obtain ⟨ad, rfl, hc⟩ := HI.out.spot hy
      have HY := Lib.hid hy
      clear hy
      by_cases h1 : y < n
      · have HL := Lib.hid (show ∀ i x, i < a + 1 → l[i]? = some x → x < n from fun i x hi hx => by
          by_cases e : i = a
          · subst e; rw [HY.out] at hx; injection hx with hx; omega
          · exact HLOW.out i x (by omega) hx)
        go_wp2_with fail
        go_roundw
        case rel => exact ⟨a + 1, by omega, by go_num, HL.out, by first | rfl | trivial⟩
        case measure => simp [intOf]; omega
      · by_cases h2 : y = n
        · subst h2
          have HE := Lib.hid (insI_is HLOW.out HY.out)
          go_wp2_with fail
          go_ret
          exact ⟨_, _, by rw [HE.out]; rfl, by rw [HE.out]; exact HI.out, Below.refl _ _⟩
        · have HE := Lib.hid (insI_new HLOW.out (fun x hx => by rw [HY.out] at hx; injection hx with hx; omega))
          have hca : ¬ c = a := by omega
          obtain ⟨A1, c1, w1, A2, c2, w2, A3, c3, w3, run1, b1, run2, b2, run3, b3, hi3⟩ := with_runs w l (some ad) c a n HI.out ha hl
          rw [if_neg hca] at run3; simp only [Option.map_some, Nat.mul_one] at run3
          have R1 := Lib.hid run1; have R2 := Lib.hid run2; have R3 := Lib.hid run3; have B3 := Lib.hid b3; have I3 := Lib.hid hi3
          have hlen : (insI l n).length = l.length + 1 := by rw [HE.out]; simp; omega
          have HLEN := Lib.hid hlen
          clear run1 run2 run3 b3 hi3 b1 b2 hlen
          go_wp2_with (first
            | (at_builtin; refine wpList_append_run (o := ⟨some 38, _, _, _, _, _⟩) (.tmp 34) (.tmp 37) 47 _ _ _ R1.out rfl rfl (by simp [Act.eval, Act.put]) (by simp [Act.eval, Act.put]) ?_)
            | (at_builtin; refine wpList_append_run (o := ⟨some 42, _, _, _, _, _⟩) (.tmp 39) (.tmp 41) 47 _ _ _ R2.out rfl rfl (by simp [Act.eval, Act.put]) (by simp [Act.eval, Act.put]) ?_)
            | (at_builtin; refine wpList_append_run (o := ⟨some 47, _, _, _, _, _⟩) (.tmp 43) (.tmp 46) 47 _ _ _ R3.out rfl rfl (by simp [Act.eval, Act.put]) (by simp [Act.eval, Act.put]) ?_)
            | fail)
          go_ret
          exact ⟨A3, c3, by rw [HLEN.out]; rfl, by rw [HE.out]; exact I3.out, B3.out⟩
    · obtain rfl : a = l.length := by omega
      have HE := Lib.hid (insI_new HLOW.out (fun x hx => by rw [List.getElem?_eq_none (Nat.le_refl _)] at hx; cases hx))
      clear hlt
      rcases A with _ | ad
      · have hl0 : l.length = 0 := by
          rcases Nat.eq_zero_or_pos l.length with h0 | h0
          · exact h0
          · obtain ⟨ad, h, _⟩ := HI.out.1.2 h0
            cases h
        obtain rfl : l = [] := List.eq_nil_of_length_eq_zero hl0
        simp only [List.length_nil] at *
        obtain ⟨A1, c1, w1, A2, c2, w2, A3, c3, w3, run1, b1, run2, b2, run3, b3, hi3⟩ := with_runs w [] none c 0 n HI.out (Nat.le_refl _) (by simp)
        simp only [Option.map_none, ite_self, List.length_nil, Nat.sub_zero, Nat.zero_add, Nat.sub_self] at run1 run2 run3
        have R1 := Lib.hid run1; have R2 := Lib.hid run2; have R3 := Lib.hid run3; have B3 := Lib.hid b3; have I3 := Lib.hid hi3
        have hlen : (insI [] n).length = 1 := by rw [HE.out]; simp
        have HLEN := Lib.hid hlen
        clear run1 run2 run3 b3 hi3 b1 b2 hlen
        go_wp2_with (first
          | (at_builtin; refine wpList_append_run (o := ⟨some 38, _, _, _, _, _⟩) (.tmp 34) (.tmp 37) 47 _ _ _ R1.out rfl rfl (by simp [Act.eval, Act.put]) (by simp [Act.eval, Act.put]) ?_)
          | (at_builtin; refine wpList_append_run (o := ⟨some 42, _, _, _, _, _⟩) (.tmp 39) (.tmp 41) 47 _ _ _ R2.out rfl rfl (by simp [Act.eval, Act.put]) (by simp [Act.eval, Act.put]) ?_)
          | (at_builtin; refine wpList_append_run (o := ⟨some 47, _, _, _, _, _⟩) (.tmp 43) (.tmp 46) 47 _ _ _ R3.out rfl rfl (by simp [Act.eval, Act.put]) (by simp [Act.eval, Act.put]) ?_)
          | fail)
        go_ret
        exact ⟨A3, c3, by rw [HLEN.out]; rfl, by rw [HE.out]; exact I3.out, B3.out⟩
      · by_cases hca : c = l.length
        · subst hca
          obtain ⟨A1, c1, w1, A2, c2, w2, A3, c3, w3, run1, b1, run2, b2, run3, b3, hi3⟩ := with_runs w l (some ad) l.length l.length n HI.out ha hl
          rw [if_pos rfl] at run3
          have R1 := Lib.hid run1; have R2 := Lib.hid run2; have R3 := Lib.hid run3; have B3 := Lib.hid b3; have I3 := Lib.hid hi3
          have hlen : (insI l n).length = l.length + 1 := by rw [HE.out]; simp
          have HLEN := Lib.hid hlen
          clear run1 run2 run3 b3 hi3 b1 b2 hlen
          go_wp2_with (first
            | (at_builtin; refine wpList_append_run (o := ⟨some 38, _, _, _, _, _⟩) (.tmp 34) (.tmp 37) 47 _ _ _ R1.out rfl rfl (by simp [Act.eval, Act.put]) (by simp [Act.eval, Act.put]) ?_)
            | (at_builtin; refine wpList_append_run (o := ⟨some 42, _, _, _, _, _⟩) (.tmp 39) (.tmp 41) 47 _ _ _ R2.out rfl rfl (by simp [Act.eval, Act.put]) (by simp [Act.eval, Act.put]) ?_)
            | (at_builtin; refine wpList_append_run (o := ⟨some 47, _, _, _, _, _⟩) (.tmp 43) (.tmp 46) 47 _ _ _ R3.out rfl rfl (by simp [Act.eval, Act.put]) (by simp [Act.eval, Act.put]) ?_)
            | fail)
          go_ret
          exact ⟨A3, c3, by rw [HLEN.out]; rfl, by rw [HE.out]; exact I3.out, B3.out⟩
        · obtain ⟨A1, c1, w1, A2, c2, w2, A3, c3, w3, run1, b1, run2, b2, run3, b3, hi3⟩ := with_runs w l (some ad) c l.length n HI.out ha hl
          rw [if_neg hca] at run3; simp only [Option.map_some, Nat.mul_one] at run3
          have R1 := Lib.hid run1; have R2 := Lib.hid run2; have R3 := Lib.hid run3; have B3 := Lib.hid b3; have I3 := Lib.hid hi3
          have hlen : (insI l n).length = l.length + 1 := by rw [HE.out]; simp
          have HLEN := Lib.hid hlen
          clear run1 run2 run3 b3 hi3 b1 b2 hlen
          go_wp2_with (first
            | (at_builtin; refine wpList_append_run (o := ⟨some 38, _, _, _, _, _⟩) (.tmp 34) (.tmp 37) 47 _ _ _ R1.out rfl rfl (by simp [Act.eval, Act.put]) (by simp [Act.eval, Act.put]) ?_)
            | (at_builtin; refine wpList_append_run (o := ⟨some 42, _, _, _, _, _⟩) (.tmp 39) (.tmp 41) 47 _ _ _ R2.out rfl rfl (by simp [Act.eval, Act.put]) (by simp [Act.eval, Act.put]) ?_)
            | (at_builtin; refine wpList_append_run (o := ⟨some 47, _, _, _, _, _⟩) (.tmp 43) (.tmp 46) 47 _ _ _ R3.out rfl rfl (by simp [Act.eval, Act.put]) (by simp [Act.eval, Act.put]) ?_)
            | fail)
          go_ret
          exact ⟨A3, c3, by rw [HLEN.out]; rfl, by rw [HE.out]; exact I3.out, B3.out⟩
theorem rparts16_yes (k n : Int) (s : ByteArray) (A : Option Addr) (m c : Nat) (w : World) (h : k = 7 ∨ k = 9) : Calls Try.prog 68 #[.agg #[.int .i64 k, .int .i64 n, .string s, .slice A m c]] w fun e w' => e = .returned (.slice A m c) ∧ Below w.heap.size w w' := by
  rcases h with rfl | rfl
  all_goals
    go_enter Try.func68, Try.ntmps68
    go_wp2_with fail
    go_ret
    exact ⟨rfl, ballocs (Below.refl _ _) _⟩
theorem rparts16_no (k n : Int) (s : ByteArray) (A : Option Addr) (m c : Nat) (w : World) (h : ¬ (k = 7 ∨ k = 9)) : Calls Try.prog 68 #[.agg #[.int .i64 k, .int .i64 n, .string s, .slice A m c]] w fun e w' => e = .returned (.slice none 0 0) ∧ Below w.heap.size w w' := by
  have h7 : (k == 7) = false := by simp; omega
  have h9 : (k == 9) = false := by simp; omega
  go_enter Try.func68, Try.ntmps68
  go_wp2_with fail
  go_ret
  exact ⟨rfl, ballocs (Below.refl _ _) _⟩
def RVarsC (t : Tm) : Prop := nodes t ≤ 1048576 → mayT t = true → ∀ (v : Value) (S : Nat → Bool) (A : Option Addr) (c : Nat) (w : World), TA w t v → IsAt w A c (varsUp S 100) →
  Calls Try.prog 58 #[v, .slice A (varsUp S 100).length c] w fun e w' => ∃ A' c', e = .returned (.slice A' (rvars t (varsUp S 100)).length c') ∧ IsAt w' A' c' (rvars t (varsUp S 100)) ∧ Below w.heap.size w w'
set_option maxRecDepth 100000 in
set_option maxHeartbeats 8000000 in
theorem rvars_any : ∀ t : Tm, RVarsC t := by
  refine Tm.ind fun t ih hnn hm v S A0 c0 w h hi => ?_
  have hmem : ∀ u ∈ t.l, mayT u = true := fun u hu => may_mem hm hu
  have ht := h
  obtain ⟨k, n, s, l, A, c, rfl, rfl, ok, hl⟩ := h.open_
  simp only [Tm.l_mk] at ih hmem
  obtain ⟨W1, hW1⟩ : ∃ W1, w.alloc (.cells #[.int .i64 k, .int .i64 n, .string s, .slice A l.length c] 24) = W1 := ⟨_, rfl⟩
  have hb1 : Below w.heap.size w W1 := by rw [← hW1]; exact ballocs (Below.refl _ _) _
  have hg : Blk W1 w.heap.size 24 #[.int .i64 k, .int .i64 n, .string s, .slice A l.length c] := by rw [← hW1]; exact Blk.new _ _ _
  obtain ⟨p0, p1, p2, p3, _, _, _, _⟩ := hg.four
  have HV := Lib.hid (rvar_any _ _ W1 (ht.later hb1) hnn)
  have HB1 := Lib.hid hb1; have HG := Lib.hid hg; have HW1 := Lib.hid hW1
  have HL := Lib.hid (hl.later hb1)
  have HI := Lib.hid (hi.later hb1)
  have HMK := Lib.hid (rvars_mk k n s l (varsUp S 100))
  have hlen : (varsUp S 100).length ≤ 65536 := Nat.le_trans (varsUp_len S 100) (by decide)
  have hv := varT_may hm
  rw [nodes_mk] at hnn
  have HIH := Lib.hid (fun u hu => ih u hu (by have := nodesL_mem hu; omega) (hmem u hu))
  have HUP := Lib.hid (fun u (hu : u ∈ l) S => rvars_up u (hmem u hu) S)
  have hllm : l.length ≤ 9223372036854775807 := by have := Nat.le_trans ok.hl ok.hc; unfold maxLen at this; exact this
  obtain ⟨V, hV⟩ : ∃ V, varsUp S 100 = V := ⟨_, rfl⟩
  cases hvt : varT (.mk k n s l) with
  | some q =>
    rw [hvt] at HV HMK
    unfold numV at HV
    have HR := Lib.hid HMK.out
    simp only at HR
    rw [hV] at HI HR hlen ⊢
    clear h ht ok hl hi hb1 hg hW1 hnn ih hmem hm hv hvt hV HMK HIH HUP
    go_enter Try.func58, Try.ntmps58
    go_wp2_with fail
    rw [HW1.out]
    refine HV.out.mono ?_
    rintro e w2 ⟨rfl, hb2⟩
    have HB2 := Lib.hid (bnext HB1.out hb2)
    have HW := Lib.hid (with_any V (q : Int) A0 c0 w2 (HI.out.later hb2) hlen)
    clear hb2
    go_wp2_with fail
    refine HW.out.mono ?_
    rintro e w3 ⟨A3, c3, rfl, hi3, hb3⟩
    have HI3 := Lib.hid hi3; have HB3 := Lib.hid (bnext HB2.out hb3)
    clear hi3 hb3
    go_wp2_with fail
    go_ret
    exact ⟨A3, c3, by rw [HR.out]; rfl, by rw [HR.out]; exact HI3.out, HB3.out⟩
  | none =>
    rw [hvt] at HV HMK
    unfold numV at HV
    have HR := Lib.hid HMK.out
    simp only at HR
    by_cases h79 : k = 7 ∨ k = 9
    · have HR2 := Lib.hid (show rvars (.mk k n s l) V = rvarsL l V from by rw [← hV, HR.out, if_pos h79])
      have HP := Lib.hid (fun w => rparts16_yes k n s A l.length c w h79)
      have HUP0 := Lib.hid hV
      rw [hV] at HI hlen ⊢
      clear h ht ok hl hi hb1 hg hW1 hnn ih hmem hm hv hvt HMK HR h79
      go_enter Try.func58, Try.ntmps58
      go_wp2_with fail
      rw [HW1.out]
      refine HV.out.mono ?_
      rintro e w2 ⟨rfl, hb2⟩
      have HB2 := Lib.hid (bnext HB1.out hb2)
      obtain ⟨p0, p1, p2, p3, _, _, _, _⟩ := (HG.out.below hb2 HG.out.lt).four
      have HL2 := Lib.hid (HL.out.later hb2)
      have HI2 := Lib.hid (HI.out.later hb2)
      clear hb2
      go_wp2_with fail
      refine (HP.out _).mono ?_
      rintro e w3 ⟨rfl, hb3⟩
      have HB3 := Lib.hid (bnext HB2.out hb3)
      have HL3 := Lib.hid (HL2.out.later hb3)
      have HI3 := Lib.hid (HI2.out.later hb3)
      clear hb3
      go_wp2_with fail
      go_loopw [1, 8] (fun x y wr => ∃ (i : Nat) (T : Nat → Bool) (A' : Option Addr) (c' : Nat), i ≤ l.length ∧ y = .int .i64 (i : Int) ∧ x = .slice A' (varsUp T 100).length c' ∧ rvarsL (l.take i) V = varsUp T 100 ∧ IsAt wr A' c' (varsUp T 100) ∧ Below w3.heap.size w3 wr) (fun _ y _ => l.length - (intOf y).toNat)
      case atStart => exact ⟨0, S, A0, c0, Nat.zero_le _, rfl, by rw [HUP0.out], by rw [List.take_zero, rvarsL_nil, HUP0.out], by rw [HUP0.out]; exact HI3.out, Below.refl _ _⟩
      case round =>
        obtain ⟨i, T, A', c', hi, rfl, rfl, hrv, hia, hb⟩ := hrel
        have HB := Lib.hid hb; have HRV := Lib.hid hrv; have HIA := Lib.hid hia
        clear hrv hia
        by_cases hlt : i < l.length
        · obtain ⟨u, hu⟩ : ∃ u, l[i]? = some u := ⟨_, List.getElem?_eq_getElem hlt⟩
          obtain ⟨b, o, A1, c1, rfl, hb1, d0, d1, d2, d3, hta, _⟩ := (HL3.out.later HB.out).at_ hu
          have HM := Lib.hid (List.mem_of_getElem? hu)
          have HC := Lib.hid (HIH.out u HM.out _ T A' c' wr hta HIA.out)
          have HU := Lib.hid (rvarsL_snoc (out := V) hu)
          have HT := Lib.hid (HUP.out u HM.out T)
          clear hta hu hb
          go_wp2_with fail
          refine HC.out.mono ?_
          rintro e w4 ⟨A4, c4, rfl, hi4, hb4⟩
          rw [HT.out] at hi4
          have HI4 := Lib.hid hi4; have HB4 := Lib.hid (bnext HB.out hb4)
          clear hi4 hb4
          rw [HT.out]
          go_wp2_with fail
          go_roundw
          case rel => exact ⟨i + 1, _, A4, c4, by omega, by go_num, rfl, by rw [HU.out, HRV.out, HT.out], HI4.out, HB4.out⟩
          case measure => simp [intOf]; omega
        · obtain rfl : i = l.length := by omega
          have HE := Lib.hid (show rvars (.mk k n s l) V = varsUp T 100 from by rw [HR2.out, ← HRV.out, List.take_length])
          clear hb
          go_wp2_with fail
          go_ret
          exact ⟨A', c', by rw [HE.out]; rfl, by rw [HE.out]; exact HIA.out, bnext HB3.out HB.out⟩
    · have HR2 := Lib.hid (show rvars (.mk k n s l) V = V from by rw [← hV, HR.out, if_neg h79])
      have HP := Lib.hid (fun w => rparts16_no k n s A l.length c w h79)
      rw [hV] at HI hlen ⊢
      clear h ht ok hl hi hb1 hg hW1 hnn ih hmem hm hv hvt HMK HR HIH HUP h79
      go_enter Try.func58, Try.ntmps58
      go_wp2_with fail
      rw [HW1.out]
      refine HV.out.mono ?_
      rintro e w2 ⟨rfl, hb2⟩
      have HB2 := Lib.hid (bnext HB1.out hb2)
      obtain ⟨p0, p1, p2, p3, _, _, _, _⟩ := (HG.out.below hb2 HG.out.lt).four
      have HI2 := Lib.hid (HI.out.later hb2)
      clear hb2
      go_wp2_with fail
      refine (HP.out _).mono ?_
      rintro e w3 ⟨rfl, hb3⟩
      have HB3 := Lib.hid (bnext HB2.out hb3)
      have HI3 := Lib.hid (HI2.out.later hb3)
      clear hb3
      go_wp2_with fail
      go_loopw [1, 8] (fun x y wr => x = .slice A0 V.length c0 ∧ y = .int .i64 0 ∧ w3 = wr) (fun _ _ _ => 0)
      case atStart => exact ⟨rfl, rfl, rfl⟩
      case round =>
        obtain ⟨rfl, rfl, rfl⟩ := hrel
        go_wp2_with fail
        go_ret
        exact ⟨A0, c0, by rw [HR2.out]; rfl, by rw [HR2.out]; exact HI3.out, HB3.out⟩
/-- tenureref16.Vars. -/
noncomputable def rvarsT (t : Tm) : List Int := if mayT t = true then rvars t [] else []
set_option maxRecDepth 100000 in
set_option maxHeartbeats 4000000 in
theorem rVars_any (t : Tm) (v : Value) (w : World) (h : TA w t v) (hn : nodes t ≤ 1048576) : Calls Try.prog 30 #[v] w fun e w' => ∃ A' c', e = .returned (.slice A' (rvarsT t).length c') ∧ IsAt w' A' c' (rvarsT t) ∧ Below w.heap.size w w' := by
  have ht := h
  obtain ⟨k, n, s, l, A, c, rfl, rfl, ok, hl⟩ := h.open_
  obtain ⟨W1, hW1⟩ : ∃ W1, w.alloc (.cells #[.int .i64 k, .int .i64 n, .string s, .slice A l.length c] 24) = W1 := ⟨_, rfl⟩
  have hb1 : Below w.heap.size w W1 := by rw [← hW1]; exact ballocs (Below.refl _ _) _
  have hg : Blk W1 w.heap.size 24 #[.int .i64 k, .int .i64 n, .string s, .slice A l.length c] := by rw [← hW1]; exact Blk.new _ _ _
  have HCk := Lib.hid (rcheck_any _ _ W1 (ht.later hb1) hn)
  have HB1 := Lib.hid hb1; have HG := Lib.hid hg; have HW1 := Lib.hid hW1
  have HT := Lib.hid (ht.later hb1)
  obtain ⟨T, hT⟩ : ∃ T, Tm.mk k n s l = T := ⟨_, rfl⟩
  rw [hT] at HCk HT hn ⊢
  obtain ⟨z, hz⟩ : ∃ z, chk T = z := ⟨_, rfl⟩
  rw [hz] at HCk
  by_cases h0 : z = 0
  · have hm : mayT T = true := by unfold mayT; rw [hz, h0]; rfl
    have HE := Lib.hid (show rvarsT T = rvars T [] from by unfold rvarsT; rw [if_pos hm])
    have HC := Lib.hid (fun w' (hb : Below W1.heap.size W1 w') => rvars_any T hn hm _ (fun _ => false) none 0 w' (HT.out.later hb) (by rw [varsUp_none]; exact IsAt.nil w'))
    simp only [varsUp_none, List.length_nil] at HC
    subst h0
    clear h ht ok hl hb1 hg hW1 hT hz hn hm
    go_enter Try.func30, Try.ntmps30
    go_wp2_with fail
    rw [HW1.out]
    refine HCk.out.mono ?_
    rintro e w2 ⟨rfl, hb2⟩
    have HB2 := Lib.hid (bnext HB1.out hb2)
    obtain ⟨p0, p1, p2, p3, _, _, _, _⟩ := (HG.out.below hb2 HG.out.lt).four
    have HC2 := Lib.hid (HC.out w2 hb2)
    clear hb2 HC
    go_wp2_with fail
    refine HC2.out.mono ?_
    rintro e w3 ⟨A3, c3, rfl, hi3, hb3⟩
    have HI3 := Lib.hid hi3; have HB3 := Lib.hid (bnext HB2.out hb3)
    clear hi3 hb3
    go_wp2_with fail
    go_ret
    exact ⟨A3, c3, by rw [HE.out]; rfl, by rw [HE.out]; exact HI3.out, HB3.out⟩
  · have hk : (z == 0) = false := by simpa using h0
    have hk2 : (z != 0) = true := by simpa using h0
    have HE := Lib.hid (show rvarsT T = [] from by unfold rvarsT mayT; rw [hz, if_neg (by simpa using h0)])
    clear h ht ok hl hb1 hg hW1 hT hz hn h0
    go_enter Try.func30, Try.ntmps30
    go_wp2_with fail
    rw [HW1.out]
    refine HCk.out.mono ?_
    rintro e w2 ⟨rfl, hb2⟩
    have HB2 := Lib.hid (bnext HB1.out hb2)
    clear hb2
    go_wp2_with fail
    go_ret
    exact ⟨none, 0, by rw [HE.out]; rfl, by rw [HE.out]; exact IsAt.nil _, HB2.out⟩
def RAnyInC (t : Tm) : Prop := ∀ (v : Value) (w : World), TA w t v → Calls Try.prog 59 #[v] w fun e w' => e = .returned (.bool (ranyIn t)) ∧ Below w.heap.size w w'
set_option maxRecDepth 100000 in
set_option maxHeartbeats 8000000 in
theorem ranyIn_any : ∀ t : Tm, RAnyInC t := by
  refine Tm.ind fun t ih v w h => ?_
  have ht := h
  obtain ⟨k, n, s, l, A, c, rfl, rfl, ok, hl⟩ := h.open_
  simp only [Tm.l_mk] at ih
  have hll : l.length ≤ 9223372036854775807 := by have := Nat.le_trans ok.hl ok.hc; unfold maxLen at this; exact this
  obtain ⟨W1, hW1⟩ : ∃ W1, w.alloc (.cells #[.int .i64 k, .int .i64 n, .string s, .slice A l.length c] 24) = W1 := ⟨_, rfl⟩
  have hb1 : Below w.heap.size w W1 := by rw [← hW1]; exact ballocs (Below.refl _ _) _
  have hg : Blk W1 w.heap.size 24 #[.int .i64 k, .int .i64 n, .string s, .slice A l.length c] := by rw [← hW1]; exact Blk.new _ _ _
  obtain ⟨p0, p1, p2, p3, _, _, _, _⟩ := hg.four
  have HB1 := Lib.hid hb1; have HG := Lib.hid hg; have HW1 := Lib.hid hW1
  have HL := Lib.hid (hl.later hb1)
  have HIH := Lib.hid ih
  have HMK := Lib.hid (ranyIn_mk k n s l)
  clear h ht ok hl hb1 hg ih hW1
  by_cases h79 : k = 7 ∨ k = 9
  · have HR := Lib.hid (show ranyIn (.mk k n s l) = ranyInL l from by rw [HMK.out, if_neg (by omega), if_pos h79])
    have HP := Lib.hid (fun w => rparts16_yes k n s A l.length c w h79)
    have hk2 : (k == 2) = false := by simp; omega
    clear h79
    go_enter Try.func59, Try.ntmps59
    go_wp2_with fail
    rw [HW1.out]
    refine (HP.out _).mono ?_
    rintro e w3 ⟨rfl, hb3⟩
    have HB3 := Lib.hid (bnext HB1.out hb3)
    have HL3 := Lib.hid (HL.out.later hb3)
    clear hb3
    go_wp2_with fail
    go_loopw [4] (fun y wr => ∃ (i : Nat), i ≤ l.length ∧ y = .int .i64 (i : Int) ∧ ranyInL (l.take i) = false ∧ Below w3.heap.size w3 wr) (fun y _ => l.length - (intOf y).toNat)
    case atStart => exact ⟨0, Nat.zero_le _, rfl, by rw [List.take_zero, ranyInL_nil], Below.refl _ _⟩
    case round =>
      obtain ⟨i, hi, rfl, hrv, hb⟩ := hrel
      have HB := Lib.hid hb; have HRV := Lib.hid hrv
      clear hrv
      by_cases hlt : i < l.length
      · obtain ⟨u, hu⟩ : ∃ u, l[i]? = some u := ⟨_, List.getElem?_eq_getElem hlt⟩
        obtain ⟨b, o, A1, c1, rfl, hb1, d0, d1, d2, d3, hta, _⟩ := (HL3.out.later HB.out).at_ hu
        have HC := Lib.hid (HIH.out u (List.mem_of_getElem? hu) _ wr hta)
        have HU := Lib.hid (ranyInL_snoc hu)
        have HY := Lib.hid (fun h => ranyInL_yes hu h)
        clear hta hu hb
        cases hx : ranyIn u with
        | true =>
          rw [hx] at HC
          have HYES := Lib.hid (HY.out hx)
          clear hx HY
          go_wp2_with fail
          refine HC.out.mono ?_
          rintro e w4 ⟨rfl, hb4⟩
          have HB4 := Lib.hid (bnext HB.out hb4)
          clear hb4
          go_wp2_with fail
          go_ret
          exact ⟨ret1_b (by rw [HR.out, HYES.out]), bnext HB3.out HB4.out⟩
        | false =>
          rw [hx] at HC
          have HNO := Lib.hid (show ranyInL (l.take (i + 1)) = false from by rw [HU.out, HRV.out, hx]; rfl)
          clear hx HY
          go_wp2_with fail
          refine HC.out.mono ?_
          rintro e w4 ⟨rfl, hb4⟩
          have HB4 := Lib.hid (bnext HB.out hb4)
          clear hb4
          go_wp2_with fail
          go_roundw
          case rel => exact ⟨i + 1, by omega, by go_num, HNO.out, HB4.out⟩
          case measure => simp [intOf]; omega
      · obtain rfl : i = l.length := by omega
        have HE := Lib.hid (show ranyIn (.mk k n s l) = false from by rw [HR.out, ← HRV.out, List.take_length])
        clear hb
        go_wp2_with fail
        go_ret
        exact ⟨ret1_b (by rw [HE.out]), bnext HB3.out HB.out⟩
  · have HP := Lib.hid (fun w => rparts16_no k n s A l.length c w h79)
    by_cases h2 : k = 2
    · subst h2
      by_cases hus : s = uscore
      · have hu1 : (s.toList == [95]) = true := by rw [hus, Lib.toList_data]; rfl
        have hu2 : s.toList = [95] := by rw [hus, Lib.toList_data]; rfl
        have HE := Lib.hid (show ranyIn (.mk 2 n s l) = true from by rw [HMK.out, if_pos ⟨rfl, hus⟩])
        clear hus h79
        go_enter Try.func59, Try.ntmps59
        go_wp2_with fail
        go_ret
        exact ⟨ret1_b HE.out.symm, by rw [HW1.out]; exact HB1.out⟩
      · have hu1 := us_ne hus
        have HE := Lib.hid (show ranyIn (.mk 2 n s l) = false from by rw [HMK.out, if_neg (fun e => hus e.2), if_neg (by omega)])
        clear hus h79
        go_enter Try.func59, Try.ntmps59
        go_wp2_with fail
        rw [HW1.out]
        refine (HP.out _).mono ?_
        rintro e w3 ⟨rfl, hb3⟩
        have HB3 := Lib.hid (bnext HB1.out hb3)
        clear hb3
        go_wp2_with fail
        go_loopw [4] (fun y wr => y = .int .i64 0 ∧ w3 = wr) (fun _ _ => 0)
        case atStart => exact ⟨rfl, rfl⟩
        case round =>
          obtain ⟨rfl, rfl⟩ := hrel
          go_wp2_with fail
          go_ret
          exact ⟨ret1_b HE.out.symm, HB3.out⟩
    · have hk2 : (k == 2) = false := by simp; omega
      have HE := Lib.hid (show ranyIn (.mk k n s l) = false from by rw [HMK.out, if_neg (fun e => h2 e.1), if_neg h79])
      clear h2 h79
      go_enter Try.func59, Try.ntmps59
      go_wp2_with fail
      rw [HW1.out]
      refine (HP.out _).mono ?_
      rintro e w3 ⟨rfl, hb3⟩
      have HB3 := Lib.hid (bnext HB1.out hb3)
      clear hb3
      go_wp2_with fail
      go_loopw [4] (fun y wr => y = .int .i64 0 ∧ w3 = wr) (fun _ _ => 0)
      case atStart => exact ⟨rfl, rfl⟩
      case round =>
        obtain ⟨rfl, rfl⟩ := hrel
        go_wp2_with fail
        go_ret
        exact ⟨ret1_b HE.out.symm, HB3.out⟩
set_option maxRecDepth 100000 in
set_option maxHeartbeats 4000000 in
theorem rBound_any (t : Tm) (v : Value) (w : World) (h : TA w t v) (hn : nodes t ≤ 1048576) : Calls Try.prog 32 #[v] w fun e w' => e = .returned (.bool (boundT t)) ∧ Below w.heap.size w w' := by
  have ht := h
  obtain ⟨k, n, s, l, A, c, rfl, rfl, ok, hl⟩ := h.open_
  obtain ⟨W1, hW1⟩ : ∃ W1, w.alloc (.cells #[.int .i64 k, .int .i64 n, .string s, .slice A l.length c] 24) = W1 := ⟨_, rfl⟩
  have hb1 : Below w.heap.size w W1 := by rw [← hW1]; exact ballocs (Below.refl _ _) _
  have hg : Blk W1 w.heap.size 24 #[.int .i64 k, .int .i64 n, .string s, .slice A l.length c] := by rw [← hW1]; exact Blk.new _ _ _
  have HCk := Lib.hid (rcheck_any _ _ W1 (ht.later hb1) hn)
  have HB1 := Lib.hid hb1; have HG := Lib.hid hg; have HW1 := Lib.hid hW1
  have HT := Lib.hid (ht.later hb1)
  obtain ⟨T, hT⟩ : ∃ T, Tm.mk k n s l = T := ⟨_, rfl⟩
  rw [hT] at HCk HT hn ⊢
  obtain ⟨z, hz⟩ : ∃ z, chk T = z := ⟨_, rfl⟩
  rw [hz] at HCk
  by_cases h0 : z = 0
  · have hm : mayT T = true := by unfold mayT; rw [hz, h0]; rfl
    have HE := Lib.hid (bound_eq hm)
    have hlen : (rvars T []).length ≤ 100 := by rw [rvars_vars hm]; exact varsUp_len _ _
    have HC := Lib.hid (fun w' (hb : Below W1.heap.size W1 w') => rvars_any T hn hm _ (fun _ => false) none 0 w' (HT.out.later hb) (by rw [varsUp_none]; exact IsAt.nil w'))
    have HA := Lib.hid (fun w' (hb : Below W1.heap.size W1 w') => ranyIn_any T _ w' (HT.out.later hb))
    simp only [varsUp_none, List.length_nil] at HC
    obtain ⟨m, hm2⟩ : ∃ m, (rvars T []).length = m := ⟨_, rfl⟩
    rw [hm2] at HE hlen
    have HM := Lib.hid hm2
    subst h0
    clear h ht ok hl hb1 hg hW1 hT hz hn hm hm2
    go_enter Try.func32, Try.ntmps32
    go_wp2_with fail
    rw [HW1.out]
    refine HCk.out.mono ?_
    rintro e w2 ⟨rfl, hb2⟩
    have HB2 := Lib.hid (bnext HB1.out hb2)
    have HD2 := Lib.hid hb2
    obtain ⟨p0, p1, p2, p3, _, _, _, _⟩ := (HG.out.below hb2 HG.out.lt).four
    have HC2 := Lib.hid (HC.out w2 hb2)
    clear hb2 HC
    go_wp2_with fail
    refine HC2.out.mono ?_
    rintro e w3 ⟨A3, c3, rfl, hi3, hb3⟩
    rw [HM.out]
    have HB3 := Lib.hid (bnext HB2.out hb3)
    have hb13 := bnext HD2.out hb3
    obtain ⟨p0, p1, p2, p3, _, _, _, _⟩ := (HG.out.below hb13 HG.out.lt).four
    have HA3 := Lib.hid (HA.out w3 hb13)
    clear hi3 hb3 hb13
    by_cases hm0 : m = 0
    · subst hm0
      go_wp2_with fail
      refine HA3.out.mono ?_
      rintro e w4 ⟨rfl, hb4⟩
      have HB4 := Lib.hid (bnext HB3.out hb4)
      clear hb4
      go_wp2_with fail
      go_ret
      exact ⟨ret1_b (by rw [HE.out]; rfl), HB4.out⟩
    · have hmf : ((m : Int) == 0) = false := by simp; omega
      have HE2 := Lib.hid (show boundT T = false from by rw [HE.out, decide_eq_false hm0]; rfl)
      go_wp2_with fail
      go_ret
      exact ⟨ret1_b (by rw [HE2.out]), HB3.out⟩
  · have hk : (z == 0) = false := by simpa using h0
    have hk2 : (z != 0) = true := by simpa using h0
    have HE := Lib.hid (show boundT T = false from by unfold boundT mayT; rw [hz, decide_eq_false h0]; rfl)
    clear h ht ok hl hb1 hg hW1 hT hz hn h0
    go_enter Try.func32, Try.ntmps32
    go_wp2_with fail
    rw [HW1.out]
    refine HCk.out.mono ?_
    rintro e w2 ⟨rfl, hb2⟩
    have HB2 := Lib.hid (bnext HB1.out hb2)
    clear hb2
    go_wp2_with fail
    go_ret
    exact ⟨ret1_b (by rw [HE.out]), HB2.out⟩
end Go.Proofs.Ytlaplakaifmpeaa.Pt
