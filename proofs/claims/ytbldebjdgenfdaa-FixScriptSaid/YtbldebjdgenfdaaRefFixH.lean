/- The document's Holders, by its contract. -/
import Derived.Test.YtbldebjdgenfdaaRefFixR
import Derived.Test.YtbldebjdgenfdaaNextP
namespace Go.Proofs.Ytbldebjdgenfdaa.Fx
open Go.RowKit K
set_option linter.unusedVariables false
set_option linter.unusedSimpArgs false

set_option maxRecDepth 100000 in
set_option maxHeartbeats 8000000 in
theorem rholders_any (h : Nat) (L : List Int) (w : World) (G : Nat → Prop) (hT : RC w G h L) (hL : L.length ≤ 65536) (h0 : ∀ x ∈ L, 0 ≤ x ∧ x ≤ 1073741824) :
    Calls Try.prog 14 #[.pointer (some ⟨h, 0, none⟩)] w fun e w' => ∃ v, e = .returned v ∧ w'.ownsRow w.heap.size 3 1 v (hold L).length ((hold L).map (Value.int .i64)) ∧ Below w.heap.size w w' := by
  obtain ⟨v, fl, fg, fv, hB, hR⟩ := hT
  obtain ⟨A0, c0, rfl, _, _⟩ := ownsRow_form hR
  have hc : w.cell? ⟨h, 0, none⟩ = some (.slice A0 L.length c0) := by rw [hB.cell]; rfl
  have hh := hB.lt
  obtain ⟨i0, hi, hz0, hz1, hz2⟩ := info_parts info3'
  have hHl := hold_length L
  have HR := Lib.hid hR
  have H0 := Lib.hid (show ∀ x ∈ L, 0 ≤ x from fun x hx => (h0 x hx).1)
  have HM := Lib.hid (hold_mem L)
  have HX := Lib.hid (fun k hk => nx_hold (L := L) (fun x hx => (h0 x hx).1) (k := k) hk)
  obtain ⟨H, hH⟩ : ∃ H, hold L = H := ⟨_, rfl⟩
  have HH := Lib.hid hH
  rw [hH] at HX HM hHl ⊢
  have HB9 := Lib.hid h0
  clear hR hB h0 hH
  go_enter Try.func14, Try.ntmps14
  go_wp2_with fail
  go_loopw [3, 4] (fun v z wr => ∃ k : Nat, k ≤ H.length ∧ z = .int .i64 (lastOf H k) ∧ (∃ c, v = .slice none 0 0 ∧ c = 0 ∨ True) ∧ wr.ownsRow w.heap.size 3 1 v k ((H.take k).map (Value.int .i64)) ∧ Below w.heap.size w wr) (fun v _ _ => H.length + 1 - (match v with | .slice _ n _ => n | _ => 0))
  case atStart => exact ⟨0, Nat.zero_le _, rfl, ⟨0, .inr trivial⟩, World.ownsRow_nil _ _ _ _, Below.refl _ _⟩
  case round =>
    obtain ⟨k, hk, rfl, _, hown, hb⟩ := hrel
    obtain ⟨A1, c1, rfl, _, _⟩ := ownsRow_form hown
    have hcr : wr.cell? ⟨h, 0, none⟩ = some (.slice A0 L.length c0) := (hb.cell (p := ⟨h, 0, none⟩) hh).trans hc
    have HOwn := Lib.hid hown
    have HBel := Lib.hid hb
    have hHX := HX.out k hk
    have hlr : -1 ≤ lastOf H k ∧ lastOf H k ≤ 1073741824 := by
      cases k with
      | zero => exact ⟨Int.le_refl _, by show (-1 : Int) ≤ _; omega⟩
      | succ k =>
        have hkl : k < H.length := by omega
        have := HB9.out H[k] ((HM.out _).1 (List.getElem_mem hkl))
        show -1 ≤ (H[k]?).getD (-1) ∧ (H[k]?).getD (-1) ≤ _
        rw [List.getElem?_eq_getElem hkl]
        show -1 ≤ H[k] ∧ H[k] ≤ _
        omega
    obtain ⟨last, hlast⟩ : ∃ last, lastOf H k = last := ⟨_, rfl⟩
    rw [hlast] at hHX hlr ⊢
    obtain ⟨hl1, hl2⟩ := hlr
    have HLS := Lib.hid hlast
    have HHX := Lib.hid hHX
    clear hown hlast hHX
    go_wp2_with fail
    go_loop [5, 6] (fun n i => ∃ j : Nat, j ≤ L.length ∧ i = .int .i64 (j : Int) ∧ n = .int .i64 (nx last (L.take j))) (fun _ i => L.length - (intOf i).toNat)
    case atStart => exact ⟨0, Nat.zero_le _, rfl, rfl⟩
    case round =>
      obtain ⟨j, hj, rfl, rfl⟩ := hrel
      have hnr : -1 ≤ nx last (L.take j) ∧ nx last (L.take j) ≤ 1073741824 := by
        rcases nx_spec last hl1 L H0.out j hj with ⟨e, _⟩ | ⟨e1, e2, _⟩
        · rw [e]; omega
        · have := HB9.out _ (List.mem_of_mem_take e1)
          omega
      by_cases hlt : j < L.length
      · obtain ⟨g6, c7, he7, _, _, _, hg6, hc7⟩ := ownsRow_at HR.out hlt
        injection he7 with e1 e2 e3
        subst e1 e3
        clear e2
        obtain ⟨x, hx⟩ : ∃ x, L[j]? = some x := ⟨_, List.getElem?_eq_getElem hlt⟩
        have cx : wr.cell? ⟨g6, j, none⟩ = some (.int .i64 x) := (hb.cell (p := ⟨g6, j, none⟩) hg6).trans (hc7 j _ (by rw [List.getElem?_map, hx]; rfl))
        have HN := Lib.hid (nx_take_succ hx last)
        obtain ⟨n, hn⟩ : ∃ n, nx last (L.take j) = n := ⟨_, rfl⟩
        rw [hn] at HN hnr ⊢
        have hx0 := HB9.out x (List.mem_of_getElem? hx)
        obtain ⟨n1, n2⟩ := hnr
        obtain ⟨x1, x2⟩ := hx0
        clear hx hc7 hn
        by_cases q1 : last < x
        · by_cases q2 : n < 0
          · have HS := Lib.hid (show nxS last n x = x from by unfold nxS; rw [if_pos ⟨q1, .inl q2⟩])
            go_wp2_with fail
            go_round
            case rel => exact ⟨j + 1, by omega, by go_num, by rw [HN.out, HS.out]⟩
            case measure => simp [intOf]; omega
          · by_cases q3 : x < n
            · have HS := Lib.hid (show nxS last n x = x from by unfold nxS; rw [if_pos ⟨q1, .inr q3⟩])
              go_wp2_with fail
              go_round
              case rel => exact ⟨j + 1, by omega, by go_num, by rw [HN.out, HS.out]⟩
              case measure => simp [intOf]; omega
            · have HS := Lib.hid (show nxS last n x = n from by unfold nxS; rw [if_neg (fun h => by rcases h.2 with h | h <;> omega)])
              go_wp2_with fail
              go_round
              case rel => exact ⟨j + 1, by omega, by go_num, by rw [HN.out, HS.out]⟩
              case measure => simp [intOf]; omega
        · have HS := Lib.hid (show nxS last n x = n from by unfold nxS; rw [if_neg (fun h => q1 h.1)])
          go_wp2_with fail
          go_round
          case rel => exact ⟨j + 1, by omega, by go_num, by rw [HN.out, HS.out]⟩
          case measure => simp [intOf]; omega
      · obtain rfl : j = L.length := by omega
        rw [List.take_length] at hnr ⊢
        rw [HHX.out] at hnr ⊢
        by_cases hkl : k < H.length
        · rw [List.getElem?_eq_getElem hkl] at hnr ⊢
          have hx0 := HB9.out H[k] ((HM.out _).1 (List.getElem_mem hkl))
          have HTS := Lib.hid (show (H.take (k + 1)).map (Value.int .i64) = (H.take k).map (Value.int .i64) ++ [.int .i64 H[k]] from by rw [List.take_add_one, List.getElem?_eq_getElem hkl, List.map_append]; rfl)
          have HLL := Lib.hid (show lastOf H (k + 1) = H[k] from by show (H[k]?).getD (-1) = _; rw [List.getElem?_eq_getElem hkl]; rfl)
          simp only [Option.getD_some] at hnr ⊢
          obtain ⟨x, hx⟩ : ∃ x, H[k] = x := ⟨_, rfl⟩
          rw [hx] at hx0 HTS HLL hnr ⊢
          obtain ⟨x1, x2⟩ := hx0
          have b1 : k + 1 ≤ maxLen := by unfold maxLen; omega
          have b2 : (k + 1) * 8 ≤ 140737488355328 := by omega
          have b3 : w.heap.size ≤ (wr.alloc (.cells #[.int .i64 x] 3)).heap.size := by have := HBel.out.size; simp; omega
          have hxn : ¬ x < 0 := by omega
          clear hx hnr hb
          go_wp2_with (first
            | (at_builtin; refine wpList_append_own_at _ rfl _ _ 26 rfl w.heap.size 3 i0 _ 1 8 Try.underlying26 hi hz0 hz1 hz2 rfl (by decide) _ _ _ rfl (HOwn.out.alloc _) ⟨wr.heap.size, 0, none⟩ 1 1 [.int .i64 x] rfl rfl (cell_one_new _ _ _) (by simp [Value.oneCell']) b1 b2 b3 ?_; intro v3 w3 hR3 hg3 _ hat3)
            | fail)
          go_roundw
          case rel =>
            refine ⟨k + 1, by omega, by rw [HLL.out], ⟨0, .inr trivial⟩, by rw [HTS.out]; exact hR3, (HBel.out.alloc HBel.out.size _).grown hg3 (by have := HBel.out.size; simp; omega) (fun r hr => (HOwn.out.lt r hr).1)⟩
          case measure =>
            obtain ⟨A3, c3, rfl, _, _⟩ := ownsRow_form hR3
            simp; omega
        · obtain rfl : k = H.length := by omega
          rw [List.getElem?_eq_none (Nat.le_refl _)] at hnr ⊢
          simp only [Option.getD_none] at hnr ⊢
          have HF := Lib.hid HOwn.out
          rw [List.take_length] at HF
          clear hnr hb
          go_wp2_with fail
          go_ret
          exact ⟨_, rfl, HF.out, HBel.out⟩
end Go.Proofs.Ytbldebjdgenfdaa.Fx
