/- The law AtomOnce returns true for every input: a text that was put has one number for ever, no two texts the same one, and the numbers are those from 0 on. -/
import Derived.Test.YtnomnkohhfkdnaaAtomOnceA
namespace Go.Proofs.Ytnomnkohhfkdnaa.AtomOnce
open Go.RowKit K At AtomKnown
open Go.ChangeShapes Go.WideShapes Go.ChangeAt
set_option linter.unusedVariables false
set_option linter.unusedSimpArgs false

def Rel1 (B : Nat) (w0 : World) (g : Nat) (xs : List ByteArray) (v nx i : Value) (wr : World) : Prop :=
  ∃ (k : Nat) (A' : Option Addr) (c' : Nat), k ≤ xs.length ∧ v = .slice A' k c' ∧ nx = .int .i64 ((gs xs k).length : Int) ∧ i = .int .i64 (k : Int) ∧ StN B w0 g (gs xs k) (.slice A' k c') k ((xs.take k).map (numV xs)) wr ∧
    ∀ j s, j < k → xs[j]? = some s → s.size ≤ 64

set_option maxRecDepth 100000 in
set_option maxHeartbeats 8000000 in
theorem walk (A : Option Addr) (c : Nat) (xs : List ByteArray) (w : World) (hx : Reads w w.heap.size 1 A xs.length (xs.map Value.string)) (hsz : ∀ s ∈ xs, s.size ≤ maxLen) (hlc : xs.length ≤ maxLen) :
    Calls Try.prog 5 #[.slice A xs.length c] w fun e w' => e = .returned (.bool true) ∧ Below w.heap.size w w' := by
  obtain ⟨i0, hi, hz0, hz1, hz2⟩ := info_parts info3
  by_cases h60 : 60 < xs.length
  · unfold maxLen at hlc
    go_enter Try.func5, Try.ntmps5
    go_wp2_with (first
      | (go_at_call 3; refine (AtomKnown.walk _).mono ?_; rintro e w1 ⟨rfl, hb1⟩)
      | (go_at_call 8; refine (new_any _).mono ?_; rintro e w2 ⟨g, rfl, hT, hb⟩; have hb2 := hb1.trans (hb.mono hb1.size); clear hb hb1 hT))
    go_ret
    exact ⟨ret1_b rfl, hb2⟩
  · have h60' : xs.length ≤ 60 := by omega
    clear h60 hlc
    go_enter Try.func5, Try.ntmps5
    go_wp2_with (first
      | (go_at_call 3; refine (AtomKnown.walk _).mono ?_; rintro e w1 ⟨rfl, hb1⟩)
      | (go_at_call 8; refine (new_any _).mono ?_; rintro e w2 ⟨g, rfl, hT, hb⟩; have hS := St.made' hb1 hb1.size hT hb; clear hb hb1 hT))
    go_loopw [5, 6, 7] (fun v nx i wr => Rel1 w.heap.size w g xs v nx i wr) (fun _ _ i _ => xs.length - (intOf i).toNat)
    case atStart => exact ⟨0, none, 0, Nat.zero_le _, rfl, rfl, rfl, StN.start hS, fun j s h => by omega⟩
    case round =>
      obtain ⟨k, A', c', hk, rfl, rfl, rfl, hN, hj⟩ := hrel
      have HJ := Lib.hid hj
      clear hj hS
      by_cases hlt : k < xs.length
      · have hxr := hx.below hN.1
        obtain ⟨ad, u, rfl, _, hu, hc⟩ := hxr.at_ hlt
        clear hxr
        obtain ⟨s, hs⟩ : ∃ s, xs[k]? = some s := ⟨_, List.getElem?_eq_getElem hlt⟩
        rw [List.getElem?_map, hs] at hu
        injection hu with hu
        subst hu
        have hsm := hsz s (List.mem_of_getElem? hs)
        have hs2 : s.size ≤ 9223372036854775807 := by unfold maxLen at hsm; exact hsm
        have HS := Lib.hid hs
        by_cases h64 : s.size ≤ 64
        · obtain ⟨o1, o2, o3, o4, o5⟩ := once_step h60' hs h64
          have HG := Lib.hid (gs_succ hs)
          have hg60 := (gs_small xs k hk).1
          clear hs
          have HI := Lib.hid (hN.intern s hsm)
          have hn := (gs_small xs (k + 1) (by omega)).1
          rcases o5 with ⟨p1, p2⟩ | ⟨p1, p2⟩
          · have P2 := Lib.hid p2
            clear p2
            go_wp2_with (first
              | (go_at_call 12; refine HI.out.mono ?_; rintro e w3 ⟨rfl, hN3⟩; have hR3 := hN3.2.2.1)
              | (at_builtin; refine wpList_append_own_at _ rfl _ _ 39 rfl w.heap.size 3 i0 _ 1 8 Try.underlying39 hi hz0 hz1 hz2 rfl (by decide) _ _ _ rfl (hR3.alloc _) ⟨w3.heap.size, 0, none⟩ 1 1 [numV xs s] rfl rfl (cell_one_new _ _ _) (by simp [Value.oneCell', numV]) (by unfold maxLen; omega) (by omega) (by have := hN3.2.1; simp; omega) ?_; intro v4 w4 hR4 hg4 _ hat4
                 obtain ⟨A4, c4, rfl, q1, q2⟩ := ownsRow_form hR4))
            have hN4 := hN3.appended hR4 hg4 hat4
            rw [← HG.out] at hN4
            clear hN3 hR3 hR4 hg4 hat4 HI
            go_roundw
            case rel =>
              refine ⟨k + 1, A4, c4, by omega, rfl, by rw [P2.out], by go_num, ?_, ?_⟩
              · rw [List.take_succ_eq_append_getElem hlt, List.map_append]
                obtain ⟨_, rfl⟩ := List.getElem?_eq_some_iff.1 HS.out
                exact hN4
              · intro j t hj ht
                rcases Nat.lt_succ_iff_lt_or_eq.1 hj with h | rfl
                · exact HJ.out j t h ht
                · have := HS.out; rw [ht] at this; injection this with this; subst this; exact h64
            case measure => simp [intOf]; omega
          · have P2 := Lib.hid p2
            have p3 : num xs s ≤ (gs xs k).length := by omega
            have p4 : (gs xs k).length ≤ num xs s := by omega
            clear p2 p1
            go_wp2_with (first
              | (go_at_call 12; refine HI.out.mono ?_; rintro e w3 ⟨rfl, hN3⟩; have hR3 := hN3.2.2.1)
              | (at_builtin; refine wpList_append_own_at _ rfl _ _ 39 rfl w.heap.size 3 i0 _ 1 8 Try.underlying39 hi hz0 hz1 hz2 rfl (by decide) _ _ _ rfl (hR3.alloc _) ⟨w3.heap.size, 0, none⟩ 1 1 [numV xs s] rfl rfl (cell_one_new _ _ _) (by simp [Value.oneCell', numV]) (by unfold maxLen; omega) (by omega) (by have := hN3.2.1; simp; omega) ?_; intro v4 w4 hR4 hg4 _ hat4
                 obtain ⟨A4, c4, rfl, q1, q2⟩ := ownsRow_form hR4))
            have hN4 := hN3.appended hR4 hg4 hat4
            rw [← HG.out] at hN4
            clear hN3 hR3 hR4 hg4 hat4 HI
            go_roundw
            case rel =>
              refine ⟨k + 1, A4, c4, by omega, rfl, by rw [P2.out]; go_num, by go_num, ?_, ?_⟩
              · rw [List.take_succ_eq_append_getElem hlt, List.map_append]
                obtain ⟨_, rfl⟩ := List.getElem?_eq_some_iff.1 HS.out
                exact hN4
              · intro j t hj ht
                rcases Nat.lt_succ_iff_lt_or_eq.1 hj with h | rfl
                · exact HJ.out j t h ht
                · have := HS.out; rw [ht] at this; injection this with this; subst this; exact h64
            case measure => simp [intOf]; omega
        · clear hs
          go_wp2
          go_ret
          exact ⟨ret1_b rfl, hN.1⟩
      · obtain rfl : k = xs.length := by omega
        clear hk hlt
        have hall : ∀ (j : Nat) (s : ByteArray), xs[j]? = some s → s.size ≤ 64 := fun j s h => HJ.out j s (List.getElem?_eq_some_iff.1 h).1 h
        rw [List.take_of_length_le (Nat.le_refl _)] at hN
        have HA := Lib.hid hall
        clear hall HJ
        go_wp2_with fail
        go_loopw [10] (fun i wr => ∃ k : Nat, k ≤ xs.length ∧ i = .int .i64 (k : Int) ∧ StN w.heap.size w g (gs xs xs.length) (.slice A' xs.length c') xs.length (xs.map (numV xs)) wr) (fun i _ => xs.length - (intOf i).toNat)
        case atStart => exact ⟨0, Nat.zero_le _, rfl, hN⟩
        case round =>
          obtain ⟨k, hk, rfl, hN2⟩ := hrel
          clear hN
          by_cases hlt : k < xs.length
          · obtain ⟨s, hs⟩ : ∃ s, xs[k]? = some s := ⟨_, List.getElem?_eq_getElem hlt⟩
            obtain ⟨ad, u, rfl, hadb, hu, _⟩ := hx.at_ hlt
            obtain ⟨rb, cap, he, _, _, _, _, _⟩ := ownsRow_at hN2.2.2.1 hlt
            injection he with e1 e2 e3
            subst e1 e3
            clear hu e2
            have HS := Lib.hid hs
            clear hs
            go_wp2_with fail
            go_loopw [11] (fun i wr => ∃ j : Nat, j ≤ xs.length ∧ i = .int .i64 (j : Int) ∧ StN w.heap.size w g (gs xs xs.length) (.slice (some ⟨rb, 0, none⟩) xs.length c') xs.length (xs.map (numV xs)) wr) (fun i _ => xs.length - (intOf i).toNat)
            case atStart => exact ⟨0, Nat.zero_le _, rfl, hN2⟩
            case round =>
              obtain ⟨j, hj, rfl, hN3⟩ := hrel
              clear hN2
              have h64 := HA.out k s HS.out
              by_cases hjt : j < xs.length
              · obtain ⟨t, ht⟩ : ∃ t, xs[j]? = some t := ⟨_, List.getElem?_eq_getElem hjt⟩
                have t64 := HA.out j t ht
                have hxr := hx.below hN3.1
                have r1 := hN3.2.2.1.cells (g := rb) rfl
                have d1 : wr.cell? ⟨rb, k, none⟩ = some (.int .i64 (num xs s : Int)) := by
                  have := r1 k (numV xs s) (by rw [List.getElem?_map, HS.out]; rfl)
                  rw [WideShapes.add_plain] at this
                  simpa [numV] using this
                have d2 : wr.cell? ⟨rb, j, none⟩ = some (.int .i64 (num xs t : Int)) := by
                  have := r1 j (numV xs t) (by rw [List.getElem?_map, ht]; rfl)
                  rw [WideShapes.add_plain] at this
                  simpa [numV] using this
                have hz := hx.2 (by omega)
                obtain ⟨ad', ea, _, hcell⟩ := hz
                injection ea with ea
                subst ea
                have d3 : wr.cell? (ad.add k) = some (.string s) := (hN3.1.cell (by rw [block_of_add]; exact hadb)).trans (hcell k _ (by rw [List.getElem?_map, HS.out]; rfl))
                have d4 : wr.cell? (ad.add j) = some (.string t) := (hN3.1.cell (by rw [block_of_add]; exact hadb)).trans (hcell j _ (by rw [List.getElem?_map, ht]; rfl))
                have HT := Lib.hid ht
                clear ht hcell hxr r1
                by_cases hst : s = t
                · subst hst
                  clear HT
                  go_wp2_with fail
                  go_quiet (fail)
                  go_wp2_with fail
                  go_roundw
                  case rel => exact ⟨j + 1, by omega, by go_num, hN3.drewN _⟩
                  case measure => simp [intOf]; omega
                · have hne : num xs s ≠ num xs t := fun e => hst ((once_inj h60' HS.out h64 HT.out t64).1 e)
                  have b1 : ((num xs s : Int) == (num xs t : Int)) = false := by simp; omega
                  have b2 : (s.data.toList == t.data.toList) = false := by
                    simp only [beq_eq_false_iff_ne]
                    intro e
                    apply hst
                    obtain ⟨a⟩ := s
                    obtain ⟨b⟩ := t
                    exact congrArg _ (Array.ext' e)
                  have b3 : (s.toList == t.toList) = false := by rw [Lib.toList_data, Lib.toList_data]; exact b2
                  clear HT hne hst
                  go_wp2_with fail
                  go_quiet (fail)
                  go_wp2_with fail
                  go_roundw
                  case rel => exact ⟨j + 1, by omega, by go_num, hN3.drewN _⟩
                  case measure => simp [intOf]; omega
              · have hN4 := hN3
                clear hN3
                have hz := hx.2 (by omega)
                obtain ⟨ad', ea, _, hcell⟩ := hz
                injection ea with ea
                subst ea
                have r1 := hN4.2.2.1.cells (g := rb) rfl
                have d1 : wr.cell? ⟨rb, k, none⟩ = some (.int .i64 (num xs s : Int)) := by
                  have := r1 k (numV xs s) (by rw [List.getElem?_map, HS.out]; rfl)
                  rw [WideShapes.add_plain] at this
                  simpa [numV] using this
                have d3 : wr.cell? (ad.add k) = some (.string s) := (hN4.1.cell (by rw [block_of_add]; exact hadb)).trans (hcell k _ (by rw [List.getElem?_map, HS.out]; rfl))
                have HNm := Lib.hid (name_st_yes hN4.st (num xs s) s (once_get h60' HS.out h64))
                clear hcell r1
                go_wp2_with (go_at_call 10; refine HNm.out.mono ?_; rintro e w5 ⟨rfl, rfl⟩)
                go_roundw
                case rel => exact ⟨k + 1, by omega, by go_num, hN4⟩
                case measure => simp [intOf]; omega
          · have HL := Lib.hid (len_st _ _ _ _ _ hN2.st)
            go_wp2_with (go_at_call 16; refine HL.out.mono ?_; rintro e w5 ⟨rfl, rfl⟩)
            go_ret
            exact ⟨ret1_b rfl, hN2.1⟩

theorem contract {H : Type} {enc : TypeId × Value → H} (W : World) {base : Nat} {r : Reach} {b : Nat} {hd : Bool} {v0 : Value} {d0 : DataW H} {p0 : List MemPlace}
    (o0 : Value.okWide Try.prog W r b 38 v0) (h0 : DataW.Trod enc Try.prog W base (fun _ => true) hd 38 v0 d0 p0) {Q R : Prop} (_ : Q) (_ : R) :
    Calls Try.prog 5 #[v0] W fun e w' => e = .returned (.bool true) ∧ Below W.heap.size W w' := by
  obtain ⟨A, c, xs, rfl, hx, hs, h1, h2, _⟩ := open_strs_arg Try.underlying38 Try.underlying9 (by kernel_rfl) o0 h0
  exact walk A c xs W hx hs (by omega)

theorem own : ownKnob Try.prog.godebug = none := by kernel_rfl
theorem laidOut : laidOutB Try.prog = true := by kernel_rfl
theorem readable : ∀ t ∈ Try.f5.params.toList, Try.prog.readableRec t = true ∧ t < Try.prog.types.size := by
  rw [show Try.f5.params = #[38] from Try.params5]
  intro t h
  simp only [List.mem_cons, List.not_mem_nil, or_false] at h
  subst h
  exact ⟨by kernel_rfl, of_decide_eq_true (by kernel_rfl)⟩
set_option maxRecDepth 100000 in
theorem lifted (os : Os) (started : os.Started) (H : Type) (enc : TypeId × Value → H) :
    ReturnsInHanded {} Try.checked os 5 .any (Rows.atomOnceSpec.pre6 enc Try.prog Try.f5 Rows.atomOnceRow.domain false) (Rows.atomOnceSpec.post enc Try.prog Try.f5 false true false false) := by
  refine K.law_lift (C := Try.checked) (b := 4) own started (by kernel_rfl) Try.func5
    (ChangeSpec.witness6 (enc := enc) (C := Try.checked) false ⟨#[], #[.slice none 0 0], []⟩ 8 (by kernel_rfl) (by kernel_rfl) (by kernel_rfl) (by kernel_rfl)) laidOut readable rfl rfl Try.underlying4 ?_ ?_
  · intro ds hds
    rw [show Try.f5.params = #[38] from Try.params5] at hds
    match ds, hds with
    | [d0], _ => rfl
  · intro W base args ds p hval hA hlt hsz
    rw [show Try.checked.prog = Try.prog from rfl] at hval hA hsz
    rw [show Try.f5.params = #[38] from Try.params5] at hA hval hsz
    obtain ⟨v0, vs0, d0, ds0, p0, q0, hargs, rfl, rfl, h0, r0⟩ := trodAll_cons hA
    obtain ⟨rfl, rfl, rfl⟩ := trodAll_nil r0
    obtain rfl : args = #[v0] := by cases args; simp_all
    exact contract W (hval 0 38 v0 rfl rfl) h0 (fun x hx => hlt x hx) hsz

theorem over : Rows.atomOnceRow.holds Try.pinned (OpenSpec.ofChange Rows.atomOnceSpec) :=
  OpenClaim.holds_of_wide 5 Try.f5 rfl rfl rfl rfl rfl rfl rfl ⟨rfl, rfl, rfl, rfl, rfl⟩ rfl rfl rfl rfl rfl (by kernel_rfl) Try.func5 (by kernel_rfl)
    (of_decide_eq_true (by kernel_rfl)) (by unfold Func.isWrapper; rw [if_neg (of_decide_eq_false (by kernel_rfl))]; exact ⟨rfl, rfl⟩)
    (fun os started H enc _ => lifted os started H enc)

/-- THE STATEMENT -/
theorem proved : Rows.AtomOnceSaid := over
#print axioms proved
end Go.Proofs.Ytnomnkohhfkdnaa.AtomOnce
