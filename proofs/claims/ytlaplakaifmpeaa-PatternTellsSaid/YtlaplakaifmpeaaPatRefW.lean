/- tenureref16.with, by its contract: rising numbers, with one more. -/
import Derived.Test.YtlaplakaifmpeaaPatRefP
import Derived.Test.YtlaplakaifmpeaaPatRefVarA
namespace Go.Proofs.Ytlaplakaifmpeaa.Pt
open Go.RowKit K Go.Shelf
set_option linter.unusedVariables false
set_option linter.unusedSimpArgs false

/-- A slice of ints that reads as a list. -/
def IsAt (w : World) (A : Option Addr) (c : Nat) (l : List Int) : Prop := Reads w w.heap.size 1 A l.length (l.map (Value.int .i64)) ∧ l.length ≤ c ∧ c ≤ maxLen
theorem IsAt.later {w w' : World} {A : Option Addr} {c : Nat} {l : List Int} (h : IsAt w A c l) (hb : Below w.heap.size w w') : IsAt w' A c l := ⟨(h.1.below hb).more hb.size, h.2⟩
theorem IsAt.nil (w : World) : IsAt w none 0 [] := ⟨Reads.none_, by simp, by simp [maxLen]⟩
theorem IsAt.spot {w : World} {A : Option Addr} {c : Nat} {l : List Int} (h : IsAt w A c l) {k : Nat} {x : Int} (hx : l[k]? = some x) : ∃ ad, A = some ad ∧ w.cell? (ad.add k) = some (.int .i64 x) := by
  obtain ⟨ad, u, hA, _, hu, hc⟩ := h.1.at_ (List.getElem?_eq_some_iff.1 hx).1
  rw [List.getElem?_map, hx] at hu
  injection hu with hu
  subst hu
  exact ⟨ad, hA, hc⟩
theorem infoI3 : (Try.prog.info? 3).map (fun i => (i.zero, i.size, i.bytes)) = some (some (.int .i64 0), 1, 8) := by kernel_rfl
theorem reads_take1 {w : World} {B n c : Nat} {A : Option Addr} {xs : List Value} (h : Reads w B 1 A n xs) {k : Nat} (hk : k ≤ n) : Reads w B 1 A k (xs.take k) := by
  refine ⟨by rw [List.length_take, h.1]; omega, fun hn => ?_⟩
  obtain ⟨ad, e, hb, hc⟩ := h.2 (by omega)
  refine ⟨ad, e, hb, fun j u hu => hc j u ?_⟩
  rw [List.getElem?_take] at hu
  split at hu
  · exact hu
  · cases hu
theorem ints_one (l : List Int) : ∀ u ∈ l.map (Value.int .i64), u.oneCell' = true := by
  intro u hu
  obtain ⟨x, _, rfl⟩ := List.mem_map.1 hu
  rfl
/-- append(append(append([]int{}, l[:a]...), n), l[a:]...): the runs, told ahead. -/
theorem with_runs (w : World) (l : List Int) (A : Option Addr) (c a : Nat) (n : Int) (h : IsAt w A c l) (ha : a ≤ l.length) (hl : l.length ≤ 65536) :
    ∃ A1 c1 w1 A2 c2 w2 A3 c3 w3, (Builtin.append_ #[47, 47] 47 #[.slice (some ⟨w.heap.size, 0, none⟩) 0 0, .slice A a c]).run Try.prog (w.alloc (.cells #[] 3)) = .ok (.slice A1 a c1) w1 ∧ Below w.heap.size w w1 ∧
      (Builtin.append_ #[47, 47] 47 #[.slice A1 a c1, .slice (some ⟨w1.heap.size, 0, none⟩) 1 1]).run Try.prog (w1.alloc (.cells #[.int .i64 n] 3)) = .ok (.slice A2 (a + 1) c2) w2 ∧ Below w.heap.size w w2 ∧
      (Builtin.append_ #[47, 47] 47 #[.slice A2 (a + 1) c2, .slice (if c = a then A else A.map (·.add (a * 1))) (l.length - a) (c - a)]).run Try.prog w2 = .ok (.slice A3 (l.length + 1) c3) w3 ∧ Below w.heap.size w w3 ∧ IsAt w3 A3 c3 (l.take a ++ [n] ++ l.drop a) := by
  obtain ⟨hr, hc, hm⟩ := h
  obtain ⟨i0, hi, hz0, hz1, hz2⟩ := info_parts infoI3
  have hb0 : Below w.heap.size w (w.alloc (.cells #[] 3)) := (Below.refl _ _).alloc (Nat.le_refl _) _
  have own0 : (w.alloc (.cells #[] 3)).ownsRow w.heap.size 3 1 (.slice (some ⟨w.heap.size, 0, none⟩) 0 0) 0 [] := World.ownsRow_lit (base := w.heap.size) (e := 3) (size := 1) w #[] 0 (Nat.le_refl _) (by simp [maxLen]) rfl
  obtain ⟨v1, w1, run1, o1, gr1, at1⟩ := run_append_any (P := Try.prog) _ w.heap.size 47 47 3 i0 _ 1 8 Try.underlying47 hi hz0 hz1 hz2 rfl (by decide) _ 0 _ own0 w.heap.size A a c _ ((reads_take1 (c := c) hr ha).below hb0) (fun u hu => ints_one l u (List.mem_of_mem_take hu)) (by unfold maxLen; omega) (by omega) hb0.size
  simp only [Nat.zero_add, List.nil_append] at o1
  have b1 : Below w.heap.size w w1 := hb0.grown gr1 hb0.size (fun r hr => (own0.lt r hr).1)
  obtain ⟨A1, c1, rfl, _, _⟩ := ownsRow_form o1
  have hb1 : Below w.heap.size w (w1.alloc (.cells #[.int .i64 n] 3)) := b1.alloc b1.size _
  have own1 := o1.alloc (.cells #[.int .i64 n] 3)
  have hr1 : Reads (w1.alloc (.cells #[.int .i64 n] 3)) (w1.alloc (.cells #[.int .i64 n] 3)).heap.size 1 (some ⟨w1.heap.size, 0, none⟩) 1 [.int .i64 n] := ⟨rfl, fun _ => ⟨_, rfl, by simp, fun j u hu => by
    rw [add_plain']
    have := (Blk.new w1 3 #[.int .i64 n]).cell (0 + j)
    rw [this]
    simpa using hu⟩⟩
  obtain ⟨v2, w2, run2, o2, gr2, at2⟩ := run_append_any (P := Try.prog) _ w.heap.size 47 47 3 i0 _ 1 8 Try.underlying47 hi hz0 hz1 hz2 rfl (by decide) _ a _ own1 _ _ 1 1 _ hr1 (by simp [Value.oneCell']) (by unfold maxLen; omega) (by omega) hb1.size
  have b2 : Below w.heap.size w w2 := hb1.grown gr2 hb1.size (fun r hr => (own1.lt r hr).1)
  obtain ⟨A2, c2, rfl, _, _⟩ := ownsRow_form o2
  have hcut := (hr.below b2).cut (k := a) (cap := c) ha hc
  obtain ⟨v3, w3, run3, o3, gr3, at3⟩ := run_append_any (P := Try.prog) _ w.heap.size 47 47 3 i0 _ 1 8 Try.underlying47 hi hz0 hz1 hz2 rfl (by decide) _ (a + 1) _ o2 w.heap.size _ (l.length - a) (c - a) _ hcut (fun u hu => ints_one l u (List.mem_of_mem_drop hu)) (by unfold maxLen; omega) (by omega) b2.size
  have b3 : Below w.heap.size w w3 := b2.grown gr3 b2.size (fun r hr => (o2.lt r hr).1)
  obtain ⟨A3, c3, rfl, hc3, hm3⟩ := ownsRow_form o3
  have e1 : a + 1 + (l.length - a) = l.length + 1 := by omega
  have e2 : (l.take a ++ [n] ++ l.drop a).length = l.length + 1 := by simp; omega
  rw [e1] at run3 o3 hc3
  refine ⟨A1, c1, w1, A2, c2, w2, A3, c3, w3, run1, b1, run2, b2, run3, b3, ?_, ?_, hm3⟩
  · have := Reads.of_own o3
    rw [e2]
    simpa [List.map_take, List.map_drop] using this
  · rw [e2]; exact hc3
set_option maxRecDepth 100000 in
set_option maxHeartbeats 8000000 in
theorem with_any (l : List Int) (n : Int) (A : Option Addr) (c : Nat) (w : World) (h : IsAt w A c l) (hl : l.length ≤ 65536) :
    Calls Try.prog 70 #[.slice A l.length c, .int .i64 n] w fun e w' => ∃ A' c', e = .returned (.slice A' (insI l n).length c') ∧ IsAt w' A' c' (insI l n) ∧ Below w.heap.size w w' := by
  have HI := Lib.hid h
  obtain ⟨_, hlc, hcm⟩ := h
  unfold maxLen at hcm
  go_enter Try.func70, Try.ntmps70
  go_wp2_with fail
  go_loopw [5] (fun x wr => ∃ a : Nat, a ≤ l.length ∧ x = .int .i64 (a : Int) ∧ (∀ i y, i < a → l[i]? = some y → y < n) ∧ w = wr) (fun x _ => l.length - (intOf x).toNat)
  case atStart => exact ⟨0, Nat.zero_le _, rfl, fun i y hi => by omega, rfl⟩
  case round =>
    obtain ⟨a, ha, rfl, hlow, rfl⟩ := hrel
    have HLOW := Lib.hid hlow
    clear hlow
    by_cases hlt : a < l.length
    · obtain ⟨y, hy⟩ : ∃ y, l[a]? = some y := ⟨_, List.getElem?_eq_getElem hlt⟩
      obtain ⟨ad, rfl, hc⟩ := HI.out.spot hy
      have HY := Lib.hid hy
      clear hy
      by_cases h1 : y < n
      · have HL := Lib.hid (show ∀ i x, i < a + 1 → l[i]? = some x → x < n from fun i x hi hx => by
          by_cases e : i = a
          · subst e; rw [HY.out] at hx; injection hx with hx; omega
          · exact HLOW.out i x (by omega) hx)
        go_wp2_with fail
        go_roundw
        case rel => exact ⟨a + 1, by omega, by go_num, HL.out, by first | rfl | trivial⟩
        case measure => simp [intOf]; omega
      · by_cases h2 : y = n
        · subst h2
          have HE := Lib.hid (insI_is HLOW.out HY.out)
          go_wp2_with fail
          go_ret
          exact ⟨_, _, by rw [HE.out]; rfl, by rw [HE.out]; exact HI.out, Below.refl _ _⟩
        · have HE := Lib.hid (insI_new HLOW.out (fun x hx => by rw [HY.out] at hx; injection hx with hx; omega))
          have hca : ¬ c = a := by omega
          obtain ⟨A1, c1, w1, A2, c2, w2, A3, c3, w3, run1, b1, run2, b2, run3, b3, hi3⟩ := with_runs w l (some ad) c a n HI.out ha hl
          rw [if_neg hca] at run3; simp only [Option.map_some, Nat.mul_one] at run3
          have R1 := Lib.hid run1; have R2 := Lib.hid run2; have R3 := Lib.hid run3; have B3 := Lib.hid b3; have I3 := Lib.hid hi3
          have hlen : (insI l n).length = l.length + 1 := by rw [HE.out]; simp; omega
          have HLEN := Lib.hid hlen
          clear run1 run2 run3 b3 hi3 b1 b2 hlen
          go_wp2_with (first
            | (at_builtin; refine wpList_append_run (o := ⟨some 38, _, _, _, _, _⟩) (.tmp 34) (.tmp 37) 47 _ _ _ R1.out rfl rfl (by simp [Act.eval, Act.put]) (by simp [Act.eval, Act.put]) ?_)
            | (at_builtin; refine wpList_append_run (o := ⟨some 42, _, _, _, _, _⟩) (.tmp 39) (.tmp 41) 47 _ _ _ R2.out rfl rfl (by simp [Act.eval, Act.put]) (by simp [Act.eval, Act.put]) ?_)
            | (at_builtin; refine wpList_append_run (o := ⟨some 47, _, _, _, _, _⟩) (.tmp 43) (.tmp 46) 47 _ _ _ R3.out rfl rfl (by simp [Act.eval, Act.put]) (by simp [Act.eval, Act.put]) ?_)
            | fail)
          go_ret
          exact ⟨A3, c3, by rw [HLEN.out]; rfl, by rw [HE.out]; exact I3.out, B3.out⟩
    · obtain rfl : a = l.length := by omega
      have HE := Lib.hid (insI_new HLOW.out (fun x hx => by rw [List.getElem?_eq_none (Nat.le_refl _)] at hx; cases hx))
      clear hlt
      rcases A with _ | ad
      · have hl0 : l.length = 0 := by
          rcases Nat.eq_zero_or_pos l.length with h0 | h0
          · exact h0
          · obtain ⟨ad, h, _⟩ := HI.out.1.2 h0
            cases h
        obtain rfl : l = [] := List.eq_nil_of_length_eq_zero hl0
        simp only [List.length_nil] at *
        obtain ⟨A1, c1, w1, A2, c2, w2, A3, c3, w3, run1, b1, run2, b2, run3, b3, hi3⟩ := with_runs w [] none c 0 n HI.out (Nat.le_refl _) (by simp)
        simp only [Option.map_none, ite_self, List.length_nil, Nat.sub_zero, Nat.zero_add, Nat.sub_self] at run1 run2 run3
        have R1 := Lib.hid run1; have R2 := Lib.hid run2; have R3 := Lib.hid run3; have B3 := Lib.hid b3; have I3 := Lib.hid hi3
        have hlen : (insI [] n).length = 1 := by rw [HE.out]; simp
        have HLEN := Lib.hid hlen
        clear run1 run2 run3 b3 hi3 b1 b2 hlen
        go_wp2_with (first
          | (at_builtin; refine wpList_append_run (o := ⟨some 38, _, _, _, _, _⟩) (.tmp 34) (.tmp 37) 47 _ _ _ R1.out rfl rfl (by simp [Act.eval, Act.put]) (by simp [Act.eval, Act.put]) ?_)
          | (at_builtin; refine wpList_append_run (o := ⟨some 42, _, _, _, _, _⟩) (.tmp 39) (.tmp 41) 47 _ _ _ R2.out rfl rfl (by simp [Act.eval, Act.put]) (by simp [Act.eval, Act.put]) ?_)
          | (at_builtin; refine wpList_append_run (o := ⟨some 47, _, _, _, _, _⟩) (.tmp 43) (.tmp 46) 47 _ _ _ R3.out rfl rfl (by simp [Act.eval, Act.put]) (by simp [Act.eval, Act.put]) ?_)
          | fail)
        go_ret
        exact ⟨A3, c3, by rw [HLEN.out]; rfl, by rw [HE.out]; exact I3.out, B3.out⟩
      · by_cases hca : c = l.length
        · subst hca
          obtain ⟨A1, c1, w1, A2, c2, w2, A3, c3, w3, run1, b1, run2, b2, run3, b3, hi3⟩ := with_runs w l (some ad) l.length l.length n HI.out ha hl
          rw [if_pos rfl] at run3
          have R1 := Lib.hid run1; have R2 := Lib.hid run2; have R3 := Lib.hid run3; have B3 := Lib.hid b3; have I3 := Lib.hid hi3
          have hlen : (insI l n).length = l.length + 1 := by rw [HE.out]; simp
          have HLEN := Lib.hid hlen
          clear run1 run2 run3 b3 hi3 b1 b2 hlen
          go_wp2_with (first
            | (at_builtin; refine wpList_append_run (o := ⟨some 38, _, _, _, _, _⟩) (.tmp 34) (.tmp 37) 47 _ _ _ R1.out rfl rfl (by simp [Act.eval, Act.put]) (by simp [Act.eval, Act.put]) ?_)
            | (at_builtin; refine wpList_append_run (o := ⟨some 42, _, _, _, _, _⟩) (.tmp 39) (.tmp 41) 47 _ _ _ R2.out rfl rfl (by simp [Act.eval, Act.put]) (by simp [Act.eval, Act.put]) ?_)
            | (at_builtin; refine wpList_append_run (o := ⟨some 47, _, _, _, _, _⟩) (.tmp 43) (.tmp 46) 47 _ _ _ R3.out rfl rfl (by simp [Act.eval, Act.put]) (by simp [Act.eval, Act.put]) ?_)
            | fail)
          go_ret
          exact ⟨A3, c3, by rw [HLEN.out]; rfl, by rw [HE.out]; exact I3.out, B3.out⟩
        · obtain ⟨A1, c1, w1, A2, c2, w2, A3, c3, w3, run1, b1, run2, b2, run3, b3, hi3⟩ := with_runs w l (some ad) c l.length n HI.out ha hl
          rw [if_neg hca] at run3; simp only [Option.map_some, Nat.mul_one] at run3
          have R1 := Lib.hid run1; have R2 := Lib.hid run2; have R3 := Lib.hid run3; have B3 := Lib.hid b3; have I3 := Lib.hid hi3
          have hlen : (insI l n).length = l.length + 1 := by rw [HE.out]; simp
          have HLEN := Lib.hid hlen
          clear run1 run2 run3 b3 hi3 b1 b2 hlen
          go_wp2_with (first
            | (at_builtin; refine wpList_append_run (o := ⟨some 38, _, _, _, _, _⟩) (.tmp 34) (.tmp 37) 47 _ _ _ R1.out rfl rfl (by simp [Act.eval, Act.put]) (by simp [Act.eval, Act.put]) ?_)
            | (at_builtin; refine wpList_append_run (o := ⟨some 42, _, _, _, _, _⟩) (.tmp 39) (.tmp 41) 47 _ _ _ R2.out rfl rfl (by simp [Act.eval, Act.put]) (by simp [Act.eval, Act.put]) ?_)
            | (at_builtin; refine wpList_append_run (o := ⟨some 47, _, _, _, _, _⟩) (.tmp 43) (.tmp 46) 47 _ _ _ R3.out rfl rfl (by simp [Act.eval, Act.put]) (by simp [Act.eval, Act.put]) ?_)
            | fail)
          go_ret
          exact ⟨A3, c3, by rw [HLEN.out]; rfl, by rw [HE.out]; exact I3.out, B3.out⟩
end Go.Proofs.Ytlaplakaifmpeaa.Pt
