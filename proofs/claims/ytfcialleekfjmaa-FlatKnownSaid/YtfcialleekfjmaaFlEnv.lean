/- What a walk over a table of atoms keeps: the table, and rows of words that lie beside it. -/
import Derived.Test.YtfcialleekfjmaaFlPart
namespace Go.Proofs.Ytfcialleekfjmaa.Fl
open Go.RowKit K At Wd
set_option linter.unusedVariables false
set_option linter.unusedSimpArgs false

/-- A row that lies outside of F. -/
def RO (w : World) (F : Nat → Prop) (A : Option Addr) (n : Nat) (xs : List Value) : Prop :=
  xs.length = n ∧ (0 < n → ∃ ad, A = some ad ∧ ad.block < w.heap.size ∧ ¬ F ad.block ∧ ∀ j u, xs[j]? = some u → w.cell? (ad.add j) = some u)
section
variable {w w' : World} {F F' : Nat → Prop} {A : Option Addr} {n : Nat} {xs : List Value}
theorem RO.reads (h : RO w F A n xs) : Reads w w.heap.size 1 A n xs := ⟨by rw [h.1]; omega, fun hn => by
  obtain ⟨ad, h1, h2, _, h3⟩ := h.2 hn
  exact ⟨ad, h1, h2, h3⟩⟩
theorem RO.step (h : RO w F A n xs) (hk : Keep F w w') (hF : ∀ k, F' k → F k ∨ w.heap.size ≤ k) : RO w' F' A n xs := ⟨h.1, fun hn => by
  obtain ⟨ad, h1, h2, h3, h4⟩ := h.2 hn
  refine ⟨ad, h1, Nat.lt_of_lt_of_le h2 hk.size, fun hf => ?_, fun j u hj => (hk.cell (p := ad.add j) (by rw [block_of_add]; exact h2) (by rw [block_of_add]; exact h3)).trans (h4 j u hj)⟩
  rcases hF _ hf with h | h
  · exact h3 h
  · omega⟩
theorem RO.below (h : RO w F A n xs) (hb : Below w.heap.size w w') : RO w' F A n xs := h.step (Keep.new hb) (fun k hk => .inl hk)
theorem RO.of_own {base : Nat} {e : TypeId} {c : Nat} (h : w.ownsRow base e 1 (.slice A n c) n xs) (hF : ∀ r, (Value.slice A n c).ownBlock = some r → ¬ F r) : RO w F A n xs := by
  have hr := Reads.of_own h
  refine ⟨by have := hr.1; omega, fun hn => ?_⟩
  obtain ⟨ad, rfl, h1, h2⟩ := hr.2 hn
  obtain ⟨g, cap, hv, _, _⟩ := h.form hn
  injection hv with hv
  injection hv with hv
  exact ⟨ad, rfl, h1, hF _ rfl, h2⟩
theorem RO.blk {b : Nat} {t : TypeId} {cs : Array Value} (h : Blk w b t cs) (hb : ¬ F b) : RO w F (some ⟨b, 0, none⟩) cs.size cs.toList := by
  refine ⟨by simp, fun _ => ⟨_, rfl, h.lt, hb, fun j u hj => ?_⟩⟩
  rw [show (⟨b, 0, none⟩ : Addr).add j = ⟨b, j, none⟩ from by simp [Addr.add]; exact fun h => h.symm, h.cell]
  rw [← Array.getElem?_toList]; exact hj
theorem RO.cell {b : Nat} (h : RO w F (some ⟨b, 0, none⟩) n xs) {j : Nat} {u : Value} (hj : xs[j]? = some u) : w.cell? ⟨b, j, none⟩ = some u := by
  have hn : 0 < n := by have := (List.getElem?_eq_some_iff.1 hj).1; have := h.1; omega
  obtain ⟨ad, h1, _, _, h4⟩ := h.2 hn
  injection h1 with h1
  subst h1
  have := h4 j u hj
  rwa [show (⟨b, 0, none⟩ : Addr).add j = ⟨b, j, none⟩ from by simp [Addr.add]; exact fun h => h.symm] at this
theorem RO.sub (h : RO w F A n xs) {m : Nat} (hm : m ≤ n) : RO w F A m (xs.take m) := ⟨by rw [List.length_take, h.1]; omega, fun h0 => by
  obtain ⟨ad, h1, h2, h3, h4⟩ := h.2 (by omega)
  refine ⟨ad, h1, h2, h3, fun j u hj => h4 j u ?_⟩
  rw [List.getElem?_take] at hj
  split at hj
  · exact hj
  · cases hj⟩
end
/-- The walk's state. -/
structure KE (w wr : World) (g : Nat) (F : Nat → Prop) (L : List ByteArray) : Prop where
  tab : Tab wr F g L
  bel : Below w.heap.size w wr
  new : ∀ b, F b → w.heap.size ≤ b
section
variable {w wr w' : World} {g : Nat} {F : Nat → Prop} {L : List ByteArray}
theorem KE.below (h : KE w wr g F L) (hb : Below wr.heap.size wr w') : KE w w' g F L := ⟨h.tab.keep (G := fun _ => False) (Keep.new hb) (fun _ _ h => h), fbelow h.bel hb, h.new⟩
theorem KE.step {F' : Nat → Prop} {L' : List ByteArray} (h : KE w wr g F L) (hk : Keep F wr w') (hT : Tab w' F' g L') (hF : ∀ k, F' k → F k ∨ wr.heap.size ≤ k) : KE w w' g F' L' :=
  ⟨hT, Keep.below h.bel hk h.bel.size (fun i hi hf => by have := h.new i hf; omega), fun b hb => by
    rcases hF b hb with h1 | h1
    · exact h.new b h1
    · exact Nat.le_trans h.bel.size h1⟩
theorem FlatPost.open_ {t : Tm} {e : Ending} (h : KE w wr g F L) (hp : FlatPost wr F g L t e w') :
    ∃ F' A c, e = .returned (.tuple #[.slice A (flW L t).length c, .int .i64 (flE L t)]) ∧ KE w w' g F' (flL L t) ∧ Keep F wr w' ∧ (∀ k, F' k → F k ∨ wr.heap.size ≤ k) ∧ RO w' F' A (flW L t).length (u64s (flW L t)) ∧ (flW L t).length ≤ c ∧ (A = none → c = 0) ∧ w'.ownsRow wr.heap.size 49 1 (.slice A (flW L t).length c) (flW L t).length (u64s (flW L t)) := by
  obtain ⟨F', sv, rfl, h1, h2, h3, h4, h5⟩ := hp
  have hz : sv = .slice none 0 0 ∨ ∃ r c, sv = .slice (some ⟨r, 0, none⟩) (flW L t).length c := by
    rcases h4.2 with ⟨h, _⟩ | ⟨r, c, _, h, _⟩
    · exact .inl h
    · exact .inr ⟨r, c, h⟩
  obtain ⟨A, c, rfl, hl, _⟩ := ownsRow_form h4
  refine ⟨F', A, c, rfl, h.step h3 h1 h2, h3, h2, RO.of_own h4 h5, hl, fun hA => ?_, h4⟩
  rcases hz with h | ⟨r, c', h⟩
  · injection h
  · injection h with h; rw [hA] at h; cases h
theorem PartPost.open_ {l : List Int} {n : Int} {e : Ending} (h : KE w wr g F L) (hp : PartPost wr F g L l n e w') :
    ∃ F' A c, e = .returned (.tuple #[.slice A (partW L l n).length c, .int .i64 (partE L l n)]) ∧ KE w w' g F' L ∧ Keep F wr w' ∧ (∀ k, F' k → F k ∨ wr.heap.size ≤ k) ∧ RO w' F' A (partW L l n).length (u64s (partW L l n)) ∧ (partW L l n).length ≤ c ∧ (A = none → c = 0) ∧ w'.ownsRow wr.heap.size 49 1 (.slice A (partW L l n).length c) (partW L l n).length (u64s (partW L l n)) := by
  obtain ⟨F', sv, rfl, h1, h2, h3, h4, h5⟩ := hp
  have hz : sv = .slice none 0 0 ∨ ∃ r c, sv = .slice (some ⟨r, 0, none⟩) (partW L l n).length c := by
    rcases h4.2 with ⟨h, _⟩ | ⟨r, c, _, h, _⟩
    · exact .inl h
    · exact .inr ⟨r, c, h⟩
  obtain ⟨A, c, rfl, hl, _⟩ := ownsRow_form h4
  refine ⟨F', A, c, rfl, h.step h3 h1 h2, h3, h2, RO.of_own h4 h5, hl, fun hA => ?_, h4⟩
  rcases hz with h | ⟨r, c', h⟩
  · injection h
  · injection h with h; rw [hA] at h; cases h
end
end Go.Proofs.Ytfcialleekfjmaa.Fl
