/- Plain: what an arena has, block by block; what its map says of a number; how that is kept. No program in sight. -/
import Derived.Test.YtnanacokclcbfaaRnd
import Derived.Test.YtnanacokclcbfaaKeep
import Derived.Test.YtnanacokclcbfaaLawKit
import Derived.Maps.Views
namespace Go.Proofs.Ytnanacokclcbfaa.Ar
open Go.RowKit K
set_option linter.unusedVariables false
set_option linter.unusedSimpArgs false

def wds (ws : List Int) : List Value := ws.map (Value.int .u64)
theorem wds_length (ws : List Int) : (wds ws).length = ws.length := by simp [wds]
theorem wds_one (ws : List Int) : ∀ u ∈ wds ws, u.oneCell' = true := by
  intro u hu
  simp [wds] at hu
  obtain ⟨x, _, rfl⟩ := hu
  rfl
/-- All blocks that there ever were: their words; none: it is gone. -/
abbrev Bks := List (Option (List Int))
def bAt (B : Bks) (k : Int) : Option (List Int) := if k < 1 then none else (B[(k - 1).toNat]?).join
def used : Bks → Nat
  | [] => 0
  | none :: r => used r
  | some ws :: r => rnd ws.length + used r

theorem bAt_append (B : Bks) (ws : List Int) (k : Int) : bAt (B ++ [some ws]) k = if k = (B.length : Int) + 1 then some ws else bAt B k := by
  unfold bAt
  by_cases h : k < 1
  · rw [if_pos h, if_pos h, if_neg (by omega)]
  · rw [if_neg h, if_neg h]
    obtain ⟨j, rfl⟩ : ∃ j : Nat, k = (j : Int) + 1 := ⟨(k - 1).toNat, by omega⟩
    rw [show ((j : Int) + 1 - 1).toNat = j from by omega]
    by_cases hj : j = B.length
    · subst hj; simp
    · rw [if_neg (by omega)]
      rcases Nat.lt_or_ge j B.length with h1 | h1
      · rw [List.getElem?_append_left h1]
      · rw [List.getElem?_eq_none (by simp; omega), List.getElem?_eq_none h1]
theorem bAt_set {B : Bks} {k : Int} (h1 : 1 ≤ k) (h2 : k ≤ B.length) (o : Option (List Int)) (j : Int) : bAt (B.set (k - 1).toNat o) j = if j = k then o else bAt B j := by
  unfold bAt
  by_cases h : j < 1
  · rw [if_pos h, if_pos h, if_neg (by omega)]
  · rw [if_neg h, if_neg h]
    by_cases e : j = k
    · subst e
      rw [if_pos rfl, List.getElem?_set_self (by omega)]
      rfl
    · rw [if_neg e, List.getElem?_set_ne (by omega)]
theorem bAt_some {B : Bks} {k : Int} {ws : List Int} (h : bAt B k = some ws) : 1 ≤ k ∧ k ≤ B.length ∧ B[(k - 1).toNat]? = some (some ws) := by
  unfold bAt at h
  by_cases h1 : k < 1
  · rw [if_pos h1] at h; cases h
  · rw [if_neg h1] at h
    cases hc : B[(k - 1).toNat]? with
    | none => rw [hc] at h; cases h
    | some o =>
      rw [hc] at h
      have := (List.getElem?_eq_some_iff.1 hc).1
      exact ⟨by omega, by omega, by rw [show o = some ws from h]⟩
theorem used_append (B : Bks) (ws : List Int) : used (B ++ [some ws]) = used B + rnd ws.length := by
  induction B with
  | nil => simp [used]
  | cons o r ih => cases o <;> simp [used, ih]; omega
theorem used_set {B : Bks} {i : Nat} {ws : List Int} (h : B[i]? = some (some ws)) (ws' : List Int) : used (B.set i (some ws')) + rnd ws.length = used B + rnd ws'.length := by
  induction B generalizing i with
  | nil => simp at h
  | cons o r ih =>
    cases i with
    | zero => simp at h; subst h; simp [used]; omega
    | succ i =>
      have := ih (i := i) (by simpa using h)
      cases o <;> simp [used] <;> omega
theorem used_drop {B : Bks} {i : Nat} {ws : List Int} (h : B[i]? = some (some ws)) : used (B.set i none) + rnd ws.length = used B := by
  induction B generalizing i with
  | nil => simp at h
  | cons o r ih =>
    cases i with
    | zero => simp at h; subst h; simp [used]; omega
    | succ i =>
      have := ih (i := i) (by simpa using h)
      cases o <;> simp [used] <;> omega

/-! ### The map -/
def sl0 : Value := .slice none 0 0
def RV (v : Value) : Option (DataW Value × List MemPlace) := some (.held v, [])
def ky (k : Int) : Lit := .int .i64 k
theorem ky_ne {k j : Int} (h : k ≠ j) : ky k ≠ ky j := fun e => h (by unfold ky at e; injection e)
theorem ky_lit (k : Int) : WideAt.IsKeyLit (ky k) := by simp [ky, WideAt.IsKeyLit]
/-- v is a slice of our own that has just these words. -/
def Row (w : World) (F : Nat → Prop) (v : Value) (ws : List Int) : Prop := w.ownsRow 0 68 1 v ws.length (wds ws) ∧ ∀ r, v.ownBlock = some r → F r
def MapIs (w : World) (F : Nat → Prop) (D : DataW Value) (B : Bks) : Prop :=
  Maps.Tidy D ∧ ∀ k : Int, Maps.has D (ky k) = (bAt B k).isSome ∧ ∀ ws, bAt B k = some ws → ∃ v, D.atKey (ky k) (.held sl0) = .held v ∧ Row w F v ws

theorem Row.keep {w w' : World} {F G F' : Nat → Prop} {v : Value} {ws : List Int} (h : Row w F v ws) (hk : Keep G w w') (hd : ∀ r, F r → ¬ G r) (hF : ∀ r, F r → F' r) : Row w' F' v ws :=
  ⟨ownsRow_keep h.1 hk (fun r hr => hd r (h.2 r hr)), fun r hr => hF r (h.2 r hr)⟩
theorem mapIs_nil (w : World) (F : Nat → Prop) : MapIs w F (.map []) [] := ⟨Maps.tidy_empty, fun k => ⟨by unfold bAt; simp [Maps.has], fun ws h => by unfold bAt at h; simp at h⟩⟩
theorem MapIs.imp {w w' : World} {F F' : Nat → Prop} {D : DataW Value} {B : Bks} (h : MapIs w F D B) (hr : ∀ v ws, Row w F v ws → Row w' F' v ws) : MapIs w' F' D B :=
  ⟨h.1, fun k => ⟨(h.2 k).1, fun ws hw => by obtain ⟨v, h1, h2⟩ := (h.2 k).2 ws hw; exact ⟨v, h1, hr v ws h2⟩⟩⟩
theorem mapIs_put {w : World} {F : Nat → Prop} {D : DataW Value} {B B' : Bks} {k : Int} {v : Value} {ws : List Int} (h : MapIs w F D B) (hv : Row w F v ws) (hB : ∀ j, bAt B' j = if j = k then some ws else bAt B j) :
    MapIs w F (D.put (ky k) (.held v)) B' := by
  refine ⟨h.1.put (ky_lit k) _, fun j => ?_⟩
  rw [hB j]
  by_cases e : j = k
  · subst e
    rw [if_pos rfl]
    refine ⟨by rw [Maps.has_put_same h.1.isMap (ky_lit j)]; rfl, fun ws' he => ?_⟩
    injection he with he
    subst he
    exact ⟨v, Maps.atKey_put_same h.1.isMap (ky_lit j) _ _, hv⟩
  · rw [if_neg e]
    obtain ⟨h1, h2⟩ := h.2 j
    refine ⟨by rw [Maps.has_put_other (ky_ne e), h1], fun ws' he => ?_⟩
    obtain ⟨v', h3, h4⟩ := h2 ws' he
    exact ⟨v', by rw [Maps.atKey_put_other (ky_ne e), h3], h4⟩
theorem mapIs_del {w : World} {F : Nat → Prop} {D : DataW Value} {B B' : Bks} {k : Int} (h : MapIs w F D B) (hB : ∀ j, bAt B' j = if j = k then none else bAt B j) : MapIs w F (D.del (ky k)) B' := by
  refine ⟨h.1.del _, fun j => ?_⟩
  rw [hB j]
  by_cases e : j = k
  · subst e
    rw [if_pos rfl]
    exact ⟨by rw [Maps.has_del_same]; rfl, fun ws' he => by cases he⟩
  · rw [if_neg e]
    obtain ⟨h1, h2⟩ := h.2 j
    refine ⟨by rw [Maps.has_del_other (ky_ne e), h1], fun ws' he => ?_⟩
    obtain ⟨v', h3, h4⟩ := h2 ws' he
    exact ⟨v', by rw [Maps.atKey_del_other (ky_ne e), h3], h4⟩

/-- No block has no words, or too many. -/
def LenOk (B : Bks) : Prop := ∀ ws, some ws ∈ B → 1 ≤ ws.length ∧ ws.length ≤ 16777216
theorem LenOk.nil : LenOk [] := fun ws h => by simp at h
theorem LenOk.append {B : Bks} (h : LenOk B) {ws : List Int} (h1 : 1 ≤ ws.length) (h2 : ws.length ≤ 16777216) : LenOk (B ++ [some ws]) := fun x hx => by
  rcases List.mem_append.1 hx with h' | h'
  · exact h x h'
  · simp at h'; subst h'; exact ⟨h1, h2⟩
theorem LenOk.set {B : Bks} (h : LenOk B) {ws : List Int} (h1 : 1 ≤ ws.length) (h2 : ws.length ≤ 16777216) (i : Nat) : LenOk (B.set i (some ws)) := fun x hx => by
  rcases List.mem_or_eq_of_mem_set hx with h' | h'
  · exact h x h'
  · injection h' with h'; subst h'; exact ⟨h1, h2⟩
theorem LenOk.drop {B : Bks} (h : LenOk B) (i : Nat) : LenOk (B.set i none) := fun x hx => by
  rcases List.mem_or_eq_of_mem_set hx with h' | h'
  · exact h x h'
  · cases h'
theorem LenOk.at_ {B : Bks} (h : LenOk B) {k : Int} {ws : List Int} (hk : bAt B k = some ws) : 1 ≤ ws.length ∧ ws.length ≤ 16777216 :=
  h ws (List.mem_of_getElem? (bAt_some hk).2.2)

/-- An arena of so many words that lies at block g, its blocks among F; at most n blocks were ever taken or set. -/
def AR (w : World) (F : Nat → Prop) (g all n : Nat) (B : Bks) : Prop :=
  ∃ bm D, (∀ k, F k → k < w.heap.size) ∧ F g ∧ F bm ∧ Blk w g 51 #[.int .i64 (all : Int), .int .i64 (used B : Int), .int .i64 (B.length : Int), .map (some bm)] ∧
    w.ownsMap Try.prog 3 RV bm n D ∧ MapIs w F D B ∧ all ≤ 16777216 ∧ used B ≤ all ∧ B.length ≤ n ∧ LenOk B
theorem AR.keep {w w' : World} {F G : Nat → Prop} {g all n : Nat} {B : Bks} (h : AR w F g all n B) (hk : Keep G w w') (hd : ∀ r, F r → ¬ G r) : AR w' F g all n B := by
  obtain ⟨bm, D, fl, fg, fm, hB, hM, hD, r⟩ := h
  exact ⟨bm, D, fun k hk2 => Nat.lt_of_lt_of_le (fl k hk2) hk.size, fg, fm, hB.keep hk (hd g fg), ownsMap_keep hM hk (hd bm fm), hD.imp fun v ws hr => hr.keep hk hd (fun _ h => h), r⟩
theorem AR.more {w : World} {F : Nat → Prop} {g all n n' : Nat} {B : Bks} (h : AR w F g all n B) (hn : n ≤ n') : AR w F g all n' B := by
  obtain ⟨bm, D, fl, fg, fm, hB, hM, hD, h1, h2, h3, h4⟩ := h
  exact ⟨bm, D, fl, fg, fm, hB, hM.mono hn, hD, h1, h2, by omega, h4⟩
theorem AR.lt {w : World} {F : Nat → Prop} {g all n : Nat} {B : Bks} (h : AR w F g all n B) : ∀ k, F k → k < w.heap.size := by
  obtain ⟨_, _, fl, _⟩ := h; exact fl
/-- Behind a call: what the arena has, and nothing outside its own blocks has turned. -/
def Moved (w : World) (F : Nat → Prop) (g all n : Nat) (B : Bks) (w' : World) : Prop :=
  ∃ F' : Nat → Prop, AR w' F' g all n B ∧ (∀ k, F' k → F k ∨ w.heap.size ≤ k) ∧ Keep F w w'
theorem Moved.stay {w : World} {F : Nat → Prop} {g all n : Nat} {B : Bks} (h : AR w F g all n B) : Moved w F g all n B w := ⟨F, h, fun k hk => .inl hk, Keep.refl _ _⟩
theorem AR.drewN {w : World} {F : Nat → Prop} {g all n : Nat} {B : Bks} (h : AR w F g all n B) (k : Nat) : AR (w.drewN k) F g all n B := by
  obtain ⟨bm, D, r⟩ := h
  exact ⟨bm, D, r⟩
theorem Moved.drewN {w w' : World} {F : Nat → Prop} {g all n : Nat} {B : Bks} (h : Moved w F g all n B w') (k : Nat) : Moved w F g all n B (w'.drewN k) := by
  obtain ⟨F', h1, h2, h3⟩ := h
  exact ⟨F', h1.drewN k, h2, h3.drewN k⟩
end Go.Proofs.Ytnanacokclcbfaa.Ar
