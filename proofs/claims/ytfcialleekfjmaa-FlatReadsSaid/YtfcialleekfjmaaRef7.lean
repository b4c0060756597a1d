/- The document's table of atoms (tenureref06), each function by its contract. -/
import Derived.Test.YtfcialleekfjmaaAtom7
import Derived.Test.YtfcialleekfjmaaOpen
import Derived.Lib.Strings
namespace Go.Proofs.Ytfcialleekfjmaa.At
open Go.RowKit K
set_option linter.unusedVariables false
set_option linter.unusedSimpArgs false

theorem str_ne {s t : ByteArray} (h : s ≠ t) : (s.toList == t.toList) = false := by
  rw [Lib.toList_data, Lib.toList_data]
  simp only [beq_eq_false_iff_ne]
  intro e
  apply h
  obtain ⟨a⟩ := s
  obtain ⟨b⟩ := t
  exact congrArg _ (Array.ext' e)

/-- The document's table at block h, its blocks among G: just the atoms L. -/
def RTab (w : World) (G : Nat → Prop) (h : Nat) (L : List ByteArray) : Prop :=
  ∃ v, (∀ k, G k → k < w.heap.size) ∧ G h ∧ (∀ r, v.ownBlock = some r → G r) ∧ Blk w h 84 #[v] ∧ w.ownsRow 0 9 1 v L.length (L.map Value.string) ∧
    (∀ s ∈ L, s.size ≤ 64) ∧ L.length ≤ 4096 ∧ bytesOf L ≤ 65536
theorem RTab.grown {w w' : World} {F : Nat → Prop} {g : Nat} {L : List ByteArray} {row : Option Nat} (h : RTab w F g L) (hg : w.grownBy w' row) (hn : ∀ r, row = some r → ¬ F r) : RTab w' F g L := by
  obtain ⟨v, fl, fg, fv, hB, hR, r⟩ := h
  refine ⟨v, fun k hk => Nat.lt_of_lt_of_le (fl k hk) hg.size, fg, fv, hB.grown hg (fun e => hn _ e.symm fg), hR.kept hg ?_, r⟩
  cases hv : v.ownBlock with
  | none => exact .inl rfl
  | some x => exact .inr (fun e => hn x e.symm (fv x hv))
theorem RTab.keep {w w' : World} {F G : Nat → Prop} {g : Nat} {L : List ByteArray} (h : RTab w F g L) (hk : Keep G w w') (hn : ∀ r, F r → ¬ G r) : RTab w' F g L := by
  obtain ⟨v, fl, fg, fv, hB, hR, r⟩ := h
  exact ⟨v, fun k hk' => Nat.lt_of_lt_of_le (fl k hk') hk.size, fg, fv, hB.keep hk (hn _ fg), ownsRow_keep hR hk (fun r hr => hn _ (fv r hr)), r⟩

def rfN (L : List ByteArray) (s : ByteArray) : Int := if s ∈ L then (idx L s : Int) else -1
theorem idx_at {L : List ByteArray} {k : Nat} {s : ByteArray} (h : L[k]? = some s) (hn : s ∉ L.take k) : idx L s = k := by
  obtain ⟨hk, e⟩ := List.getElem?_eq_some_iff.1 h
  have e1 : L = L.take k ++ (s :: L.drop (k + 1)) := by
    rw [← e, ← List.drop_eq_getElem_cons hk, List.take_append_drop]
  have : ∀ (M R : List ByteArray), s ∉ M → idx (M ++ s :: R) s = M.length := by
    intro M R hM
    induction M with
    | nil => simp [idx]
    | cons a M ih =>
      have h1 : a ≠ s := fun e => hM (by simp [e])
      have h2 : s ∉ M := fun e => hM (by simp [e])
      simp [idx, h1, ih h2]
  rw [e1, this _ _ hn, List.length_take]
  omega

set_option maxRecDepth 100000 in
set_option maxHeartbeats 4000000 in
theorem rfind_any (h : Nat) (L : List ByteArray) (s : ByteArray) (w : World) (G : Nat → Prop) (hT : RTab w G h L) (hs : s.size ≤ maxLen) :
    Calls Try.prog 62 #[.pointer (some ⟨h, 0, none⟩), .string s] w fun e w' => e = .returned (.int .i64 (rfN L s)) ∧ w = w' := by
  obtain ⟨v, fl, fg, fv, hB, hR, hsz, hl4, hby⟩ := hT
  obtain ⟨A0, cap, rfl, hc1, hc2⟩ := ownsRow_form hR
  have c1 : w.cell? ⟨h, 0, none⟩ = some (.slice A0 L.length cap) := by rw [hB.cell]; rfl
  have HR := Lib.hid hR
  clear hR hB fl fv hsz
  go_enter Try.func62, Try.ntmps62
  go_wp2_with fail
  go_loop [5] (fun i => ∃ k : Nat, k ≤ L.length ∧ i = .int .i64 (k : Int) ∧ s ∉ L.take k) (fun i => L.length - (intOf i).toNat)
  case atStart => exact ⟨0, Nat.zero_le _, rfl, by simp⟩
  case round =>
    obtain ⟨k, hk, rfl, hn⟩ := hrel
    have HN := Lib.hid hn
    clear hn
    by_cases hlt : k < L.length
    · obtain ⟨r, cap', he, _, _, _, _, hc⟩ := ownsRow_at HR.out hlt
      injection he with e1 e2 e3
      subst e1 e3
      clear e2
      obtain ⟨t, ht⟩ : ∃ t, L[k]? = some t := ⟨_, List.getElem?_eq_getElem hlt⟩
      have d1 : w.cell? ⟨r, k, none⟩ = some (.string t) := hc k _ (by rw [List.getElem?_map, ht]; rfl)
      have HT := Lib.hid ht
      clear hc ht
      by_cases hst : t = s
      · subst hst
        have E := Lib.hid (idx_at HT.out HN.out)
        have M : Hid (t ∈ L) := List.mem_of_getElem? HT.out
        go_wp2_with fail
        go_ret
        refine ⟨ret1_i ?_, rfl⟩
        unfold rfN
        rw [if_pos M.out, E.out]
      · have b3 := str_ne hst
        have HS := Lib.hid hst
        clear hst
        go_wp2_with fail
        go_round
        case rel =>
          refine ⟨k + 1, by omega, by go_num, ?_⟩
          rw [List.take_succ_eq_append_getElem hlt, List.mem_append]
          rintro (h1 | h1)
          · exact HN.out h1
          · simp at h1
            obtain ⟨_, e⟩ := List.getElem?_eq_some_iff.1 HT.out
            exact HS.out (e.symm.trans h1.symm)
        case measure => simp [intOf]; omega
    · obtain rfl : k = L.length := by omega
      rw [List.take_of_length_le (Nat.le_refl _)] at HN
      go_wp2_with fail
      go_ret
      refine ⟨ret1_i ?_, rfl⟩
      unfold rfN
      rw [if_neg HN.out]

theorem bytesOf_take_le (L : List ByteArray) (k : Nat) : bytesOf (L.take k) ≤ bytesOf L := by
  induction L generalizing k with
  | nil => simp
  | cons a r ih =>
    cases k with
    | zero => simp [bytesOf]
    | succ k => simp only [List.take_succ_cons, bytesOf]; have := ih k; omega

set_option maxRecDepth 100000 in
set_option maxHeartbeats 4000000 in
theorem rbytes_any (h : Nat) (L : List ByteArray) (w : World) (G : Nat → Prop) (hT : RTab w G h L) :
    Calls Try.prog 63 #[.pointer (some ⟨h, 0, none⟩)] w fun e w' => e = .returned (.int .i64 (bytesOf L : Int)) ∧ w = w' := by
  obtain ⟨v, fl, fg, fv, hB, hR, hsz, hl4, hby⟩ := hT
  obtain ⟨A0, cap, rfl, hc1, hc2⟩ := ownsRow_form hR
  have c1 : w.cell? ⟨h, 0, none⟩ = some (.slice A0 L.length cap) := by rw [hB.cell]; rfl
  have HR := Lib.hid hR
  have HZ := Lib.hid hsz
  clear hR hB fl fv hsz
  go_enter Try.func63, Try.ntmps63
  go_wp2_with fail
  go_loop [3, 4] (fun n i => ∃ k : Nat, k ≤ L.length ∧ i = .int .i64 (k : Int) ∧ n = .int .i64 (bytesOf (L.take k) : Int)) (fun _ i => L.length - (intOf i).toNat)
  case atStart => exact ⟨0, Nat.zero_le _, rfl, rfl⟩
  case round =>
    obtain ⟨k, hk, rfl, rfl⟩ := hrel
    by_cases hlt : k < L.length
    · obtain ⟨r, cap', he, _, _, _, _, hc⟩ := ownsRow_at HR.out hlt
      injection he with e1 e2 e3
      subst e1 e3
      clear e2
      obtain ⟨t, ht⟩ : ∃ t, L[k]? = some t := ⟨_, List.getElem?_eq_getElem hlt⟩
      have d1 : w.cell? ⟨r, k, none⟩ = some (.string t) := hc k _ (by rw [List.getElem?_map, ht]; rfl)
      have hz := HZ.out t (List.mem_of_getElem? ht)
      have hb := bytesOf_take_le L k
      have E : Hid (bytesOf (L.take (k + 1)) = bytesOf (L.take k) + t.size) := by
        show bytesOf (L.take (k + 1)) = bytesOf (L.take k) + t.size
        obtain ⟨_, e⟩ := List.getElem?_eq_some_iff.1 ht
        rw [List.take_succ_eq_append_getElem hlt, bytesOf_append, e]
      clear hc ht
      go_wp2_with fail
      go_round
      case rel => exact ⟨k + 1, by omega, by go_num, by rw [E.out]; go_num⟩
      case measure => simp [intOf]; omega
    · obtain rfl : k = L.length := by omega
      go_wp2_with fail
      go_ret
      exact ⟨ret1_i (by simp), rfl⟩
def RMoved (w : World) (G : Nat → Prop) (h : Nat) (L : List ByteArray) (w' : World) : Prop :=
  ∃ G' : Nat → Prop, RTab w' G' h L ∧ (∀ k, G' k → G k ∨ w.heap.size ≤ k) ∧ Keep G w w'
theorem RMoved.stay {w : World} {F : Nat → Prop} {g : Nat} {L : List ByteArray} (h : RTab w F g L) : RMoved w F g L w := ⟨F, h, fun k hk => .inl hk, Keep.refl _ _⟩
theorem rmoved_new {w w3 : World} {G : Nat → Prop} {g c3 c0 : Nat} {A0 A3 : Option Addr} {L : List ByteArray} {s : ByteArray} (fl : ∀ k, G k → k < w.heap.size) (fg : G g) (fv : ∀ r, (Value.slice A0 L.length c0).ownBlock = some r → G r)
    (hg3 : (w.alloc (.cells #[.string s] 9)).grownBy w3 (Value.slice A0 L.length c0).ownBlock) (hB3 : Blk w3 g 84 #[.slice A0 L.length c0])
    (hR3 : w3.ownsRow 0 9 1 (.slice A3 (L.length + 1) c3) (L.length + 1) (L.map Value.string ++ [.string s])) (hat : (Value.slice A3 (L.length + 1) c3).ownBlock = (Value.slice A0 L.length c0).ownBlock ∨ (Value.slice A3 (L.length + 1) c3).ownBlock = some (w.alloc (.cells #[.string s] 9)).heap.size)
    (hbig : s.size ≤ 64) (h4 : L.length < 4096) (h5 : bytesOf L + s.size ≤ 65536) (hsz : ∀ s ∈ L, s.size ≤ 64) :
    RMoved w G g (L ++ [s]) (w3.setCell ⟨g, 0, none⟩ (.slice A3 (L.length + 1) c3)) := by
  have hB4 := hB3.set_ 0 (.slice A3 (L.length + 1) c3)
  have hne : (Value.slice A3 (L.length + 1) c3).ownBlock ≠ some g := own_blk_ne hR3 hB3 (by decide)
  have hlen : (L ++ [s]).length = L.length + 1 := by simp
  refine ⟨fun k => (G k ∨ w.heap.size ≤ k) ∧ k < (w3.setCell ⟨g, 0, none⟩ (.slice A3 (L.length + 1) c3)).heap.size, ⟨.slice A3 (L.length + 1) c3, fun k hk => hk.2, ⟨.inl fg, by simpa [World.setCell] using hB3.lt⟩, ?_, ?_, ?_, ?_, by omega, by rw [bytesOf_append]; omega⟩, fun k hk => hk.1, ?_⟩
  · intro r hr
    refine ⟨?_, by simpa [World.setCell] using (hR3.lt r hr).2⟩
    rcases hat with h | h
    · rw [h] at hr; exact .inl (fv r hr)
    · rw [h] at hr
      injection hr with hr
      right
      simp at hr
      omega
  · simpa using hB4
  · rw [hlen]
    have := ownsRow_setCell_other hR3 (a := ⟨g, 0, none⟩) hne (.slice A3 (L.length + 1) c3)
    simpa using this
  · intro x hx
    rcases List.mem_append.1 hx with hx | hx
    · exact hsz x hx
    · simp at hx; subst hx; exact hbig
  · exact (((Keep.refl G w).alloc _).grown hg3 (fun k hk => .inl (fv k hk))).setCell (.inl fg) _

set_option maxRecDepth 100000 in
set_option maxHeartbeats 4000000 in
theorem rintern_any (g : Nat) (L : List ByteArray) (s : ByteArray) (w : World) (G : Nat → Prop) (hT : RTab w G g L) (hs : s.size ≤ maxLen) :
    Calls Try.prog 46 #[.pointer (some ⟨g, 0, none⟩), .string s] w fun e w' => e = .returned (.tuple #[.int .i64 (inN L s), .int .i64 (inE L s)]) ∧ RMoved w G g (inL L s) w' := by
  have HF := Lib.hid (rfind_any g L s w G hT hs)
  have HY := Lib.hid (rbytes_any g L w G hT)
  have HT := Lib.hid hT
  obtain ⟨v, fl, fg, fv, hB, hR, hsz, hl4, hby⟩ := hT
  obtain ⟨A0, cap, rfl, hc1, hc2⟩ := ownsRow_form hR
  have c1 : w.cell? ⟨g, 0, none⟩ = some (.slice A0 L.length cap) := by rw [hB.cell]; rfl
  have hs' : s.size ≤ 9223372036854775807 := by unfold maxLen at hs; exact hs
  by_cases big : 64 < s.size
  · have E1 := Lib.hid (show inN L s = 0 by unfold inN; rw [if_pos big])
    have E2 := Lib.hid (show inE L s = 2 by unfold inE; rw [if_pos big])
    have E3 := Lib.hid (show inL L s = L by unfold inL; rw [if_pos big])
    go_enter Try.func46, Try.ntmps46
    go_wp2_with fail
    go_ret2
    exact ⟨ret2_ii E1.out.symm E2.out.symm, by rw [E3.out]; exact RMoved.stay HT.out⟩
  · have hbig : s.size ≤ 64 := by omega
    by_cases hm : s ∈ L
    · have E1 := Lib.hid (show inN L s = (idx L s : Int) by unfold inN; rw [if_neg big, if_pos hm])
      have E2 := Lib.hid (show inE L s = 0 by unfold inE; rw [if_neg big, if_pos hm])
      have E3 := Lib.hid (show inL L s = L by unfold inL; rw [if_neg big, if_pos hm])
      have hf : rfN L s = (idx L s : Int) := by unfold rfN; rw [if_pos hm]
      have hi := idx_lt hm
      clear hm big
      go_enter Try.func46, Try.ntmps46
      go_wp2_with (go_at_call 62; refine HF.out.mono ?_; rintro e w1 ⟨rfl, rfl⟩)
      go_ret2
      exact ⟨ret2_ii E1.out.symm E2.out.symm, by rw [E3.out]; exact RMoved.stay HT.out⟩
    · have hf : rfN L s = -1 := by unfold rfN; rw [if_neg hm]
      by_cases hfu : full L s = true
      · have E1 := Lib.hid (show inN L s = 0 by unfold inN; rw [if_neg big, if_neg hm, if_pos hfu])
        have E2 := Lib.hid (show inE L s = 8 by unfold inE; rw [if_neg big, if_neg hm, if_pos hfu])
        have E3 := Lib.hid (show inL L s = L by unfold inL; rw [if_neg big, if_neg hm, if_pos hfu])
        have hf' : 4096 ≤ L.length ∨ 65536 < bytesOf L + s.size := by simpa [full] using hfu
        clear hm big hfu
        by_cases h4 : 4096 ≤ L.length
        · clear hf'
          go_enter Try.func46, Try.ntmps46
          go_wp2_with (first | (go_at_call 62; refine HF.out.mono ?_; rintro e w1 ⟨rfl, rfl⟩) | (go_at_call 63; refine HY.out.mono ?_; rintro e w1 ⟨rfl, rfl⟩))
          go_ret2
          exact ⟨ret2_ii E1.out.symm E2.out.symm, by rw [E3.out]; exact RMoved.stay HT.out⟩
        · have h5 : 65536 < bytesOf L + s.size := by omega
          clear hf'
          go_enter Try.func46, Try.ntmps46
          go_wp2_with (first | (go_at_call 62; refine HF.out.mono ?_; rintro e w1 ⟨rfl, rfl⟩) | (go_at_call 63; refine HY.out.mono ?_; rintro e w1 ⟨rfl, rfl⟩))
          go_ret2
          exact ⟨ret2_ii E1.out.symm E2.out.symm, by rw [E3.out]; exact RMoved.stay HT.out⟩
      · have E1 := Lib.hid (show inN L s = (L.length : Int) by unfold inN; rw [if_neg big, if_neg hm, if_neg hfu])
        have E2 := Lib.hid (show inE L s = 0 by unfold inE; rw [if_neg big, if_neg hm, if_neg hfu])
        have E3 := Lib.hid (show inL L s = L ++ [s] by unfold inL; rw [if_neg big, if_neg hm, if_neg hfu])
        have hf' : ¬ (4096 ≤ L.length ∨ 65536 < bytesOf L + s.size) := by simpa [full] using hfu
        have h4 : L.length < 4096 := by omega
        have h5 : bytesOf L + s.size ≤ 65536 := by omega
        have f1 : w.frozen? ⟨g, 0, none⟩ = false := hB.frozen 0
        obtain ⟨i0, hi, hz0, hz1, hz2⟩ := info_parts info9
        have hrg : (Value.slice A0 L.length cap).ownBlock ≠ some g := own_blk_ne hR hB (by decide)
        clear hm big hf' hfu
        go_enter Try.func46, Try.ntmps46
        go_wp2_with (first
          | (go_at_call 62; refine HF.out.mono ?_; rintro e w1 ⟨rfl, rfl⟩)
          | (go_at_call 63; refine HY.out.mono ?_; rintro e w1 ⟨rfl, rfl⟩)
          | (at_builtin; refine wpList_append_own_at _ rfl _ _ 28 rfl 0 9 i0 _ 1 16 Try.underlying28 hi hz0 hz1 hz2 rfl (by decide) _ _ _ rfl (hR.alloc _) ⟨w.heap.size, 0, none⟩ 1 1 [.string s] rfl rfl (cell_one_new _ _ _) (by simp [Value.oneCell']) (by unfold maxLen; omega) (by omega) (Nat.zero_le _) ?_; intro v3 w3 hR3 hg3 _ hat3
             have hB3 := (hB.alloc (.cells #[.string s] 9)).grown hg3 (fun e => hrg e.symm)
             obtain ⟨A3, cap3, rfl, hc3, hc4⟩ := ownsRow_form hR3
             have f3 : w3.frozen? ⟨g, 0, none⟩ = false := hB3.frozen 0
             have d1 : w3.cell? ⟨g, 0, none⟩ = some (.slice A0 L.length cap) := by rw [hB3.cell]; rfl))
        go_ret2
        exact ⟨ret2_ii (by rw [E1.out]) E2.out.symm, by rw [E3.out]; exact rmoved_new fl fg fv hg3 hB3 hR3 hat3 hbig h4 h5 hsz⟩
end Go.Proofs.Ytfcialleekfjmaa.At
