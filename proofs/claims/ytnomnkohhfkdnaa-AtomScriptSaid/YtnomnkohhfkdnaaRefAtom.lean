/- The document's table of atoms (tenureref06), each function by its contract. -/
import Derived.Test.YtnomnkohhfkdnaaAtomOnceA
namespace Go.Proofs.Ytnomnkohhfkdnaa.At
open Go.RowKit K
set_option linter.unusedVariables false
set_option linter.unusedSimpArgs false

theorem str_ne {s t : ByteArray} (h : s ≠ t) : (s.toList == t.toList) = false := by
  rw [Lib.toList_data, Lib.toList_data]
  simp only [beq_eq_false_iff_ne]
  intro e
  apply h
  obtain ⟨a⟩ := s
  obtain ⟨b⟩ := t
  exact congrArg _ (Array.ext' e)

/-- The document's table at block h, its blocks among G: just the atoms L. -/
def RTab (w : World) (G : Nat → Prop) (h : Nat) (L : List ByteArray) : Prop :=
  ∃ v, (∀ k, G k → k < w.heap.size) ∧ G h ∧ (∀ r, v.ownBlock = some r → G r) ∧ Blk w h 43 #[v] ∧ w.ownsRow 0 9 1 v L.length (L.map Value.string) ∧
    (∀ s ∈ L, s.size ≤ 64) ∧ L.length ≤ 4096 ∧ bytesOf L ≤ 65536
theorem RTab.grown {w w' : World} {F : Nat → Prop} {g : Nat} {L : List ByteArray} {row : Option Nat} (h : RTab w F g L) (hg : w.grownBy w' row) (hn : ∀ r, row = some r → ¬ F r) : RTab w' F g L := by
  obtain ⟨v, fl, fg, fv, hB, hR, r⟩ := h
  refine ⟨v, fun k hk => Nat.lt_of_lt_of_le (fl k hk) hg.size, fg, fv, hB.grown hg (fun e => hn _ e.symm fg), hR.kept hg ?_, r⟩
  cases hv : v.ownBlock with
  | none => exact .inl rfl
  | some x => exact .inr (fun e => hn x e.symm (fv x hv))
theorem RTab.keep {w w' : World} {F G : Nat → Prop} {g : Nat} {L : List ByteArray} (h : RTab w F g L) (hk : Keep G w w') (hn : ∀ r, F r → ¬ G r) : RTab w' F g L := by
  obtain ⟨v, fl, fg, fv, hB, hR, r⟩ := h
  exact ⟨v, fun k hk' => Nat.lt_of_lt_of_le (fl k hk') hk.size, fg, fv, hB.keep hk (hn _ fg), ownsRow_keep hR hk (fun r hr => hn _ (fv r hr)), r⟩

def rfN (L : List ByteArray) (s : ByteArray) : Int := if s ∈ L then (idx L s : Int) else -1
theorem idx_at {L : List ByteArray} {k : Nat} {s : ByteArray} (h : L[k]? = some s) (hn : s ∉ L.take k) : idx L s = k := by
  obtain ⟨hk, e⟩ := List.getElem?_eq_some_iff.1 h
  have e1 : L = L.take k ++ (s :: L.drop (k + 1)) := by
    rw [← e, ← List.drop_eq_getElem_cons hk, List.take_append_drop]
  have : ∀ (M R : List ByteArray), s ∉ M → idx (M ++ s :: R) s = M.length := by
    intro M R hM
    induction M with
    | nil => simp [idx]
    | cons a M ih =>
      have h1 : a ≠ s := fun e => hM (by simp [e])
      have h2 : s ∉ M := fun e => hM (by simp [e])
      simp [idx, h1, ih h2]
  rw [e1, this _ _ hn, List.length_take]
  omega

set_option maxRecDepth 100000 in
set_option maxHeartbeats 4000000 in
theorem rfind_any (h : Nat) (L : List ByteArray) (s : ByteArray) (w : World) (G : Nat → Prop) (hT : RTab w G h L) (hs : s.size ≤ maxLen) :
    Calls Try.prog 21 #[.pointer (some ⟨h, 0, none⟩), .string s] w fun e w' => e = .returned (.int .i64 (rfN L s)) ∧ w = w' := by
  obtain ⟨v, fl, fg, fv, hB, hR, hsz, hl4, hby⟩ := hT
  obtain ⟨A0, cap, rfl, hc1, hc2⟩ := ownsRow_form hR
  have c1 : w.cell? ⟨h, 0, none⟩ = some (.slice A0 L.length cap) := by rw [hB.cell]; rfl
  have HR := Lib.hid hR
  clear hR hB fl fv hsz
  go_enter Try.func21, Try.ntmps21
  go_wp2_with fail
  go_loop [5] (fun i => ∃ k : Nat, k ≤ L.length ∧ i = .int .i64 (k : Int) ∧ s ∉ L.take k) (fun i => L.length - (intOf i).toNat)
  case atStart => exact ⟨0, Nat.zero_le _, rfl, by simp⟩
  case round =>
    obtain ⟨k, hk, rfl, hn⟩ := hrel
    have HN := Lib.hid hn
    clear hn
    by_cases hlt : k < L.length
    · obtain ⟨r, cap', he, _, _, _, _, hc⟩ := ownsRow_at HR.out hlt
      injection he with e1 e2 e3
      subst e1 e3
      clear e2
      obtain ⟨t, ht⟩ : ∃ t, L[k]? = some t := ⟨_, List.getElem?_eq_getElem hlt⟩
      have d1 : w.cell? ⟨r, k, none⟩ = some (.string t) := hc k _ (by rw [List.getElem?_map, ht]; rfl)
      have HT := Lib.hid ht
      clear hc ht
      by_cases hst : t = s
      · subst hst
        have E := Lib.hid (idx_at HT.out HN.out)
        have M : Hid (t ∈ L) := List.mem_of_getElem? HT.out
        go_wp2_with fail
        go_ret
        refine ⟨ret1_i ?_, rfl⟩
        unfold rfN
        rw [if_pos M.out, E.out]
      · have b3 := str_ne hst
        have HS := Lib.hid hst
        clear hst
        go_wp2_with fail
        go_round
        case rel =>
          refine ⟨k + 1, by omega, by go_num, ?_⟩
          rw [List.take_succ_eq_append_getElem hlt, List.mem_append]
          rintro (h1 | h1)
          · exact HN.out h1
          · simp at h1
            obtain ⟨_, e⟩ := List.getElem?_eq_some_iff.1 HT.out
            exact HS.out (e.symm.trans h1.symm)
        case measure => simp [intOf]; omega
    · obtain rfl : k = L.length := by omega
      rw [List.take_of_length_le (Nat.le_refl _)] at HN
      go_wp2_with fail
      go_ret
      refine ⟨ret1_i ?_, rfl⟩
      unfold rfN
      rw [if_neg HN.out]

theorem bytesOf_take_le (L : List ByteArray) (k : Nat) : bytesOf (L.take k) ≤ bytesOf L := by
  induction L generalizing k with
  | nil => simp
  | cons a r ih =>
    cases k with
    | zero => simp [bytesOf]
    | succ k => simp only [List.take_succ_cons, bytesOf]; have := ih k; omega

set_option maxRecDepth 100000 in
set_option maxHeartbeats 4000000 in
theorem rbytes_any (h : Nat) (L : List ByteArray) (w : World) (G : Nat → Prop) (hT : RTab w G h L) :
    Calls Try.prog 22 #[.pointer (some ⟨h, 0, none⟩)] w fun e w' => e = .returned (.int .i64 (bytesOf L : Int)) ∧ w = w' := by
  obtain ⟨v, fl, fg, fv, hB, hR, hsz, hl4, hby⟩ := hT
  obtain ⟨A0, cap, rfl, hc1, hc2⟩ := ownsRow_form hR
  have c1 : w.cell? ⟨h, 0, none⟩ = some (.slice A0 L.length cap) := by rw [hB.cell]; rfl
  have HR := Lib.hid hR
  have HZ := Lib.hid hsz
  clear hR hB fl fv hsz
  go_enter Try.func22, Try.ntmps22
  go_wp2_with fail
  go_loop [3, 4] (fun n i => ∃ k : Nat, k ≤ L.length ∧ i = .int .i64 (k : Int) ∧ n = .int .i64 (bytesOf (L.take k) : Int)) (fun _ i => L.length - (intOf i).toNat)
  case atStart => exact ⟨0, Nat.zero_le _, rfl, rfl⟩
  case round =>
    obtain ⟨k, hk, rfl, rfl⟩ := hrel
    by_cases hlt : k < L.length
    · obtain ⟨r, cap', he, _, _, _, _, hc⟩ := ownsRow_at HR.out hlt
      injection he with e1 e2 e3
      subst e1 e3
      clear e2
      obtain ⟨t, ht⟩ : ∃ t, L[k]? = some t := ⟨_, List.getElem?_eq_getElem hlt⟩
      have d1 : w.cell? ⟨r, k, none⟩ = some (.string t) := hc k _ (by rw [List.getElem?_map, ht]; rfl)
      have hz := HZ.out t (List.mem_of_getElem? ht)
      have hb := bytesOf_take_le L k
      have E : Hid (bytesOf (L.take (k + 1)) = bytesOf (L.take k) + t.size) := by
        show bytesOf (L.take (k + 1)) = bytesOf (L.take k) + t.size
        obtain ⟨_, e⟩ := List.getElem?_eq_some_iff.1 ht
        rw [List.take_succ_eq_append_getElem hlt, bytesOf_append, e]
      clear hc ht
      go_wp2_with fail
      go_round
      case rel => exact ⟨k + 1, by omega, by go_num, by rw [E.out]; go_num⟩
      case measure => simp [intOf]; omega
    · obtain rfl : k = L.length := by omega
      go_wp2_with fail
      go_ret
      exact ⟨ret1_i (by simp), rfl⟩
end Go.Proofs.Ytnomnkohhfkdnaa.At
