/- Plain: who has fixed how often; what the map of a count says. No program in sight. -/
import Derived.Test.YtbldebjdgenfdaaKeep
import Derived.Test.YtbldebjdgenfdaaLawKit
import Derived.Maps.Views
namespace Go.Proofs.Ytbldebjdgenfdaa.Fx
open Go.RowKit K
set_option linter.unusedVariables false
set_option linter.unusedSimpArgs false

def cnt : List Int → Int → Nat
  | [], _ => 0
  | a :: r, p => if a = p then cnt r p + 1 else cnt r p
/-- Without the first m of a pid. -/
def less : List Int → Int → Nat → List Int
  | [], _, _ => []
  | a :: r, p, m => if a = p ∧ 0 < m then less r p (m - 1) else a :: less r p m
theorem cnt_append (L : List Int) (a p : Int) : cnt (L ++ [a]) p = cnt L p + if a = p then 1 else 0 := by
  induction L with
  | nil => simp [cnt]
  | cons b r ih => simp only [List.cons_append, cnt, ih]; split <;> omega
theorem cnt_le (L : List Int) (p : Int) : cnt L p ≤ L.length := by
  induction L with
  | nil => simp [cnt]
  | cons a r ih => simp only [cnt]; split <;> simp <;> omega
theorem cnt_pos {L : List Int} {p : Int} : 0 < cnt L p ↔ p ∈ L := by
  induction L with
  | nil => simp [cnt]
  | cons a r ih =>
    simp only [cnt]
    split
    · rename_i h; simp [h]
    · rename_i h
      rw [ih, List.mem_cons]
      constructor
      · exact .inr
      · rintro (h' | h')
        · exact absurd h'.symm h
        · exact h'
theorem cnt_less (L : List Int) (p : Int) (m : Nat) (q : Int) : cnt (less L p m) q = if q = p then cnt L p - m else cnt L q := by
  induction L generalizing m with
  | nil => simp [less, cnt]
  | cons a r ih =>
    simp only [less]
    by_cases h : a = p ∧ 0 < m
    · rw [if_pos h, ih]
      obtain ⟨rfl, hm⟩ := h
      by_cases e : q = a
      · subst e; simp [cnt]; omega
      · have e' : ¬ a = q := fun h => e h.symm
        simp [e, e', cnt]
    · rw [if_neg h]
      simp only [cnt, ih]
      by_cases e : q = p
      · subst e
        by_cases e2 : a = q
        · have hm : m = 0 := by
            rcases Nat.eq_zero_or_pos m with h1 | h1
            · exact h1
            · exact absurd ⟨e2, h1⟩ h
          subst hm
          simp [e2]
        · simp [e2]
      · simp [e]
theorem less_length (L : List Int) (p : Int) (m : Nat) (hm : m ≤ cnt L p) : (less L p m).length + m = L.length := by
  induction L generalizing m with
  | nil => simp [cnt] at hm; simp [less, hm]
  | cons a r ih =>
    simp only [less]
    by_cases h : a = p ∧ 0 < m
    · rw [if_pos h]
      obtain ⟨rfl, h1⟩ := h
      simp only [cnt, if_true] at hm
      have := ih (m - 1) (by omega)
      simp; omega
    · rw [if_neg h]
      have hm' : m ≤ cnt r p := by
        by_cases e : a = p
        · have : m = 0 := by
            rcases Nat.eq_zero_or_pos m with h1 | h1
            · exact h1
            · exact absurd ⟨e, h1⟩ h
          omega
        · simpa [cnt, e] using hm
      have := ih m hm'
      simp; omega

def ky (k : Int) : Lit := .int .i64 k
theorem ky_ne {k j : Int} (h : k ≠ j) : ky k ≠ ky j := fun e => h (by unfold ky at e; injection e)
theorem ky_lit (k : Int) : WideAt.IsKeyLit (ky k) := by simp [ky, WideAt.IsKeyLit]
def zd : DataW Unit := .lit (.int .i64 0)
def MapIs (D : DataW Unit) (L : List Int) : Prop := Maps.Tidy D ∧ ∀ p : Int, Maps.has D (ky p) = decide (0 < cnt L p) ∧ D.atKey (ky p) zd = .lit (.int .i64 (cnt L p : Int))
theorem mapIs_nil : MapIs (.map []) [] := ⟨Maps.tidy_empty, fun p => ⟨by simp [Maps.has, cnt], by simp [DataW.atKey, cnt, zd]⟩⟩
theorem mapIs_put {D : DataW Unit} {L L' : List Int} {p : Int} {m : Nat} (h : MapIs D L) (hm : 0 < m) (hL : ∀ q, cnt L' q = if q = p then m else cnt L q) : MapIs (D.put (ky p) (.lit (.int .i64 (m : Int)))) L' := by
  refine ⟨h.1.put (ky_lit p) _, fun q => ?_⟩
  rw [hL q]
  by_cases e : q = p
  · subst e
    rw [if_pos rfl]
    exact ⟨by rw [Maps.has_put_same h.1.isMap (ky_lit q)]; simp [hm], by rw [Maps.atKey_put_same h.1.isMap (ky_lit q)]⟩
  · rw [if_neg e]
    obtain ⟨h1, h2⟩ := h.2 q
    exact ⟨by rw [Maps.has_put_other (ky_ne e), h1], by rw [Maps.atKey_put_other (ky_ne e), h2]⟩
theorem mapIs_del {D : DataW Unit} {L L' : List Int} {p : Int} (h : MapIs D L) (hL : ∀ q, cnt L' q = if q = p then 0 else cnt L q) : MapIs (D.del (ky p)) L' := by
  refine ⟨h.1.del _, fun q => ?_⟩
  rw [hL q]
  by_cases e : q = p
  · subst e
    rw [if_pos rfl]
    exact ⟨by rw [Maps.has_del_same]; simp, by rw [Maps.atKey_del_same]; rfl⟩
  · rw [if_neg e]
    obtain ⟨h1, h2⟩ := h.2 q
    exact ⟨by rw [Maps.has_del_other (ky_ne e), h1], by rw [Maps.atKey_del_other (ky_ne e), h2]⟩

/-- A count at block g, its blocks among F: just these fix (a pid for each time); the map was written at most n times. -/
def CT (w : World) (F : Nat → Prop) (g n : Nat) (L : List Int) : Prop :=
  ∃ bm D, (∀ k, F k → k < w.heap.size) ∧ F g ∧ F bm ∧ Blk w g 41 #[.map (some bm), .int .i64 (L.length : Int)] ∧ w.ownsMap Try.prog 3 (plainElem Try.prog 3) bm n D ∧ MapIs D L
theorem CT.keep {w w' : World} {F G : Nat → Prop} {g n : Nat} {L : List Int} (h : CT w F g n L) (hk : Keep G w w') (hd : ∀ r, F r → ¬ G r) : CT w' F g n L := by
  obtain ⟨bm, D, fl, fg, fm, hB, hM, hD⟩ := h
  exact ⟨bm, D, fun k hk2 => Nat.lt_of_lt_of_le (fl k hk2) hk.size, fg, fm, hB.keep hk (hd g fg), ownsMap_keep hM hk (hd bm fm), hD⟩
theorem CT.more {w : World} {F : Nat → Prop} {g n n' : Nat} {L : List Int} (h : CT w F g n L) (hn : n ≤ n') : CT w F g n' L := by
  obtain ⟨bm, D, fl, fg, fm, hB, hM, hD⟩ := h
  exact ⟨bm, D, fl, fg, fm, hB, hM.mono hn, hD⟩
theorem CT.lt {w : World} {F : Nat → Prop} {g n : Nat} {L : List Int} (h : CT w F g n L) : ∀ k, F k → k < w.heap.size := by
  obtain ⟨_, _, fl, _⟩ := h; exact fl
/-- Behind a call: who fixes, and nothing outside the count's own blocks has turned. -/
def Moved (w : World) (F : Nat → Prop) (g n : Nat) (L : List Int) (w' : World) : Prop := CT w' F g n L ∧ Keep F w w'
end Go.Proofs.Ytbldebjdgenfdaa.Fx
