/- Sets of variables: two words, a bit for each. -/
import Derived.Test.YtlaplakaifmpeaaPatNum
import Derived.Laws.BitsAllLaws
namespace Go.Proofs.Ytlaplakaifmpeaa.Pt
open Go.RowKit K
set_option linter.unusedVariables false
set_option linter.unusedSimpArgs false

def hasB (lo hi n : Nat) : Bool := if n < 64 then lo.testBit n else hi.testBit (n - 64)
theorem bit_get (lo n : Nat) (hlo : lo < 18446744073709551616) : (bits .and .u64 ((lo : Int) / 2 ^ n) 1 == 1) = lo.testBit n := by
  have e : ((lo : Int) / 2 ^ n) = ((lo / 2 ^ n : Nat) : Int) := by simp
  rw [e, show (1 : Int) = ((1 : Nat) : Int) from rfl, u64_and_nat _ _ (Nat.lt_of_le_of_lt (Nat.div_le_self _ _) hlo) (by decide), Nat.and_one_is_mod, Nat.testBit_eq_decide_div_mod_eq]
  rw [Bool.eq_iff_iff]
  simp
  omega
theorem bit_put (lo n : Nat) (hlo : lo < 18446744073709551616) (hn : n < 64) : bits .or .u64 (lo : Int) (IntKind.u64.wrap (2 ^ n)) = ((lo ||| 2 ^ n : Nat) : Int) ∧ lo ||| 2 ^ n < 18446744073709551616 := by
  have hp : 2 ^ n < 18446744073709551616 := by
    have := Nat.pow_lt_pow_right (a := 2) (by decide) hn
    simpa using this
  have e : IntKind.u64.wrap (2 ^ n) = ((2 ^ n : Nat) : Int) := by
    have h1 : ((2 : Int) ^ n) = ((2 ^ n : Nat) : Int) := by simp
    rw [h1]
    generalize (2 ^ n : Nat) = q at hp ⊢
    simp only [IntKind.wrap, IntKind.bits, IntKind.signed]
    simp
    omega
  rw [e]
  exact ⟨u64_or_nat _ _ hlo hp, Nat.or_lt_two_pow (n := 64) (by simpa using hlo) (by simpa using hp)⟩
set_option maxRecDepth 100000 in
set_option maxHeartbeats 4000000 in
theorem has_any (g lo hi n : Nat) (w : World) (hn : n < 100) (hlo : lo < 18446744073709551616) (hhi : hi < 18446744073709551616) (c0 : w.cell? ⟨g, 0, none⟩ = some (.int .u64 (lo : Int))) (c1 : w.cell? ⟨g, 1, none⟩ = some (.int .u64 (hi : Int))) :
    Calls Try.prog 53 #[.pointer (some ⟨g, 0, none⟩), .int .i64 (n : Int)] w fun e w' => e = .returned (.bool (hasB lo hi n)) ∧ w = w' := by
  by_cases h : n < 64
  · have HH := Lib.hid (show (bits .and .u64 ((lo : Int) / 2 ^ n) 1 == 1) = hasB lo hi n from by rw [bit_get lo n hlo]; unfold hasB; rw [if_pos h])
    go_enter Try.func53, Try.ntmps53
    go_wp2_with fail
    go_ret
    exact ⟨ret1_b HH.out, rfl⟩
  · have HH := Lib.hid (show (bits .and .u64 ((hi : Int) / 2 ^ (n - 64)) 1 == 1) = hasB lo hi n from by rw [bit_get hi _ hhi]; unfold hasB; rw [if_neg h])
    go_enter Try.func53, Try.ntmps53
    go_wp2_with fail
    go_ret
    exact ⟨ret1_b HH.out, rfl⟩
/-- One more. -/
def Added (g lo hi n : Nat) (w w' : World) : Prop := ∃ lo' hi', (lo' < 18446744073709551616 ∧ hi' < 18446744073709551616) ∧ (∀ m, m < 100 → hasB lo' hi' m = (decide (m = n) || hasB lo hi m)) ∧
  w'.cell? ⟨g, 0, none⟩ = some (.int .u64 (lo' : Int)) ∧ w'.cell? ⟨g, 1, none⟩ = some (.int .u64 (hi' : Int)) ∧ (∀ i, 2 ≤ i → w'.cell? ⟨g, i, none⟩ = w.cell? ⟨g, i, none⟩) ∧ (∀ p, w'.frozen? p = w.frozen? p) ∧ Keep (fun k => k = g) w w' ∧ w'.heap.size = w.heap.size
theorem two_bit (n m : Nat) : (2 ^ n : Nat).testBit m = decide (m = n) := by
  rw [Nat.testBit_two_pow]
  by_cases h : n = m
  · subst h; simp
  · rw [decide_eq_false h, decide_eq_false (fun e => h e.symm)]
theorem hasB_lo (lo hi n m : Nat) (hn : n < 64) : hasB (lo ||| 2 ^ n) hi m = (decide (m = n) || hasB lo hi m) := by
  unfold hasB
  by_cases h : m < 64
  · rw [if_pos h, if_pos h, Nat.testBit_or, two_bit, Bool.or_comm]
  · rw [if_neg h, if_neg h, show decide (m = n) = false from decide_eq_false (by omega), Bool.false_or]
theorem hasB_hi (lo hi n m : Nat) (hn : ¬ n < 64) : hasB lo (hi ||| 2 ^ (n - 64)) m = (decide (m = n) || hasB lo hi m) := by
  unfold hasB
  by_cases h : m < 64
  · rw [if_pos h, if_pos h, show decide (m = n) = false from decide_eq_false (by omega), Bool.false_or]
  · rw [if_neg h, if_neg h, Nat.testBit_or, two_bit, Bool.or_comm]
    congr 1
    rw [decide_eq_decide]
    omega
set_option maxRecDepth 100000 in
set_option maxHeartbeats 4000000 in
theorem add_any (g lo hi n : Nat) (w : World) (hn : n < 100) (hlo : lo < 18446744073709551616) (hhi : hi < 18446744073709551616) (c0 : w.cell? ⟨g, 0, none⟩ = some (.int .u64 (lo : Int))) (c1 : w.cell? ⟨g, 1, none⟩ = some (.int .u64 (hi : Int))) (f0 : w.frozen? ⟨g, 0, none⟩ = false) (f1 : w.frozen? ⟨g, 1, none⟩ = false) :
    Calls Try.prog 57 #[.pointer (some ⟨g, 0, none⟩), .int .i64 (n : Int)] w fun e w' => e = .returned (.tuple #[]) ∧ Added g lo hi n w w' := by
  by_cases h : n < 64
  · obtain ⟨e, hb⟩ := bit_put lo n hlo h
    have hA : Added g lo hi n w ((w.setCell ⟨g, 0, none⟩ (.int .u64 (bits .or .u64 (lo : Int) (IntKind.u64.wrap (2 ^ n))))).drew) := by
      rw [e]
      refine ⟨_, hi, ⟨hb, hhi⟩, fun m _ => hasB_lo lo hi n m h, World.cell?_setCell_same _ _ _ c0, (World.cell?_setCell_other _ _ _ _ (by intro e; injection e with _ e; omega)).trans c1, fun i hi => World.cell?_setCell_other _ _ _ _ (by intro e; injection e with _ e; omega), fun p => World.frozen?_setCell _ _ _ _, ?_, by simp [World.setCell, World.drew]⟩
      exact (Keep.setCell (F := fun k => k = g) (p := ⟨g, 0, none⟩) (Keep.refl _ _) (.inl rfl) _).drew
    have HA := Lib.hid hA
    clear hA e hb
    go_enter Try.func57, Try.ntmps57
    go_wp2_with fail
    go_region
    go_wp2_with fail
    go_end0
    exact ⟨rfl, HA.out⟩
  · obtain ⟨e, hb⟩ := bit_put hi (n - 64) hhi (by omega)
    have hA : Added g lo hi n w ((w.setCell ⟨g, 1, none⟩ (.int .u64 (bits .or .u64 (hi : Int) (IntKind.u64.wrap (2 ^ (n - 64)))))).drew) := by
      rw [e]
      refine ⟨lo, _, ⟨hlo, hb⟩, fun m _ => hasB_hi lo hi n m h, (World.cell?_setCell_other _ _ _ _ (by intro e; injection e with _ e; omega)).trans c0, World.cell?_setCell_same _ _ _ c1, fun i hi => World.cell?_setCell_other _ _ _ _ (by intro e; injection e with _ e; omega), fun p => World.frozen?_setCell _ _ _ _, ?_, by simp [World.setCell, World.drew]⟩
      exact (Keep.setCell (F := fun k => k = g) (p := ⟨g, 1, none⟩) (Keep.refl _ _) (.inl rfl) _).drew
    have HA := Lib.hid hA
    clear hA e hb
    go_enter Try.func57, Try.ntmps57
    go_wp2_with fail
    go_region
    go_wp2_with fail
    go_end0
    exact ⟨rfl, HA.out⟩
end Go.Proofs.Ytlaplakaifmpeaa.Pt
