/- Blocks of an arena, by its contract: the numbers of the blocks that are there, in order. -/
import Derived.Test.YtnanacokclcbfaaLaw08
import Derived.Test.YtnanacokclcbfaaKeys08
namespace Go.Proofs.Ytnanacokclcbfaa.Ar
open Go.RowKit K
set_option linter.unusedVariables false
set_option linter.unusedSimpArgs false

def ksFrom : Nat → Bks → List Int
  | _, [] => []
  | i, none :: r => ksFrom (i + 1) r
  | i, some _ :: r => (i : Int) :: ksFrom (i + 1) r
theorem ksFrom_mem (i : Nat) (B : Bks) (x : Int) : x ∈ ksFrom i B ↔ (i : Int) ≤ x ∧ ((B[(x - i).toNat]?).join).isSome = true := by
  induction B generalizing i with
  | nil => simp [ksFrom]
  | cons o r ih =>
    have hstep : ∀ (h : (i : Int) + 1 ≤ x), ((o :: r)[(x - i).toNat]?) = r[(x - ((i + 1 : Nat) : Int)).toNat]? := fun h => by
      rw [show (x - (i : Int)).toNat = (x - ((i + 1 : Nat) : Int)).toNat + 1 from by omega, List.getElem?_cons_succ]
    cases o with
    | none =>
      simp only [ksFrom, ih]
      constructor
      · rintro ⟨h1, h2⟩
        refine ⟨by omega, ?_⟩
        rw [hstep (by omega)]; exact h2
      · rintro ⟨h1, h2⟩
        by_cases e : x = (i : Int)
        · subst e
          rw [show ((i : Int) - (i : Int)).toNat = 0 from by omega] at h2
          simp at h2
        · refine ⟨by omega, ?_⟩
          rw [hstep (by omega)] at h2; exact h2
    | some ws =>
      simp only [ksFrom, List.mem_cons, ih]
      constructor
      · rintro (h | ⟨h1, h2⟩)
        · subst h
          exact ⟨Int.le_refl _, by rw [show ((i : Int) - (i : Int)).toNat = 0 from by omega]; simp⟩
        · refine ⟨by omega, ?_⟩
          rw [hstep (by omega)]; exact h2
      · rintro ⟨h1, h2⟩
        by_cases e : x = (i : Int)
        · exact .inl e
        · refine .inr ⟨by omega, ?_⟩
          rw [hstep (by omega)] at h2; exact h2
theorem ksFrom_ge (i : Nat) (B : Bks) : ∀ x ∈ ksFrom i B, (i : Int) ≤ x := fun x hx => ((ksFrom_mem i B x).1 hx).1
theorem ksFrom_sorted (i : Nat) (B : Bks) : (ksFrom i B).Pairwise (· < ·) := by
  induction B generalizing i with
  | nil => exact List.Pairwise.nil
  | cons o r ih =>
    cases o with
    | none => exact ih (i + 1)
    | some ws => exact List.Pairwise.cons (fun x hx => by have := ksFrom_ge (i + 1) r x hx; omega) (ih (i + 1))
theorem ksFrom_length (i : Nat) (B : Bks) : (ksFrom i B).length ≤ B.length := by
  induction B generalizing i with
  | nil => simp [ksFrom]
  | cons o r ih =>
    have := ih (i + 1)
    cases o <;> simp [ksFrom] <;> omega
def blks (B : Bks) : List Int := ksFrom 1 B
theorem blks_mem (B : Bks) (x : Int) : x ∈ blks B ↔ (bAt B x).isSome = true := by
  unfold blks
  rw [ksFrom_mem]
  unfold bAt
  by_cases h : x < 1
  · rw [if_pos h]
    constructor
    · rintro ⟨h1, _⟩; omega
    · intro h1; cases h1
  · rw [if_neg h]
    constructor
    · rintro ⟨_, h2⟩; simpa using h2
    · intro h2; exact ⟨by omega, by simpa using h2⟩

set_option maxRecDepth 100000 in
set_option maxHeartbeats 4000000 in
theorem blocks_any (g all n : Nat) (B : Bks) (w : World) (F : Nat → Prop) (hT : AR w F g all n B) (hn : n ≤ 1099511627776) :
    Calls Try.prog 17 #[.pointer (some ⟨g, 0, none⟩)] w (Ks.RowPost w (blks B)) := by
  obtain ⟨bm, D, fl, fg, fm, hB, hM, hD, h1, h2, h3, h4⟩ := hT
  have c3 : w.cell? ⟨g, 3, none⟩ = some (.map (some bm)) := by rw [hB.cell]; rfl
  have HK := Lib.hid (Ks.sorted_ks bm n D RV w hM (blks B) (ksFrom_sorted 1 B) (fun x => by rw [blks_mem]; exact (congrArg (· = true) (hD.2 x).1.symm).to_iff) (by have := ksFrom_length 1 B; unfold blks; omega))
  clear hD hM hB h4
  go_enter Try.func17, Try.ntmps17
  go_wp2_with (first
    | (go_at_call 27; refine (none_no g bm _ c3).mono ?_; rintro e w1 ⟨rfl, rfl⟩)
    | (go_at_call 31; refine (Ks.keys_c _ _).mono ?_; rintro e w1 ⟨rfl, rfl⟩)
    | (go_at_call 30; refine HK.out.mono ?_; rintro e w2 ⟨v2, rfl, hR2, hb2⟩))
  go_ret
  exact ⟨v2, rfl, ownsRow_base hR2 (fun r hr => by have := hR2.lt r hr; simp at this; omega), ((Below.refl _ w).alloc (Nat.le_refl _) _).trans (hb2.mono (by simp))⟩
end Go.Proofs.Ytnanacokclcbfaa.Ar
